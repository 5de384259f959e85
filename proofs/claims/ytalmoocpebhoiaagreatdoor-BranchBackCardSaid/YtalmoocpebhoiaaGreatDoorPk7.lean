/- Texts of this claim, joined. -/
import Derived.Test.YtalmoocpebhoiaaGreatDoorPk3
import Derived.Test.YtalmoocpebhoiaaGreatDoorPk4
import Derived.Test.YtalmoocpebhoiaaGreatDoorPk6
import Derived.Lib.ItoaLen
import Derived.Lib.SplitLaws
set_option linter.unusedSimpArgs false
set_option linter.unusedVariables false
set_option maxRecDepth 20000
set_option maxHeartbeats 8000000
namespace Go.Proofs.YtalmoocpebhoiaaGreatDoor.Am
open Go.RowKit Lw
open Br
def natR (n:Nat) (_:Nat):DC:=.c (.int .i64 n)
abbrev skC (s:List Nat):Ct:=listC natR 0 s
theorem head_take {α:Type} {f:α→Nat→DC} {d:α} {sz k m:Nat} {l:List α} (h:k=m) (hm:m≤l.length):LeDC sz (headC (listC f d l) k) (listC f d (l.take m)):=by
 subst h
 refine ⟨by show k=(l.take k).length;rw [List.length_take];omega,fun i j hi _=>LeX.of_eq ?_⟩
 show f (l.getD i d) j=f ((l.take k).getD i d) j
 have hi:i<k:=hi
 rw [getD_take hi]
theorem walk_c (l:List Bn):Con Tryz.prog 23 [.o (.ro 10 l.length (bnC l).cell)] [] 0 1 U (fun _=>.o (.clo 64 [(0,0)])) (fun _=>[.box 0 22 [.ro 10 l.length (bnC l).cell]]):=by
 refine con_of Tryz.func23 rfl (by kernel_rfl) Tryz.ntmps23 rfl (by first | exact Nat.zero_le _ | decide) (fun _=>⟨rfl,rfl⟩) fun w S ν=>?_
 refine wc ?_
 exact po
abbrev metE (l:List Bn) (q:Nat):List (ByteArray×List DC):=(metL l q).map fun t=>(t,[.c (.bool true)])
theorem metE_none {l:List Bn} {q:Nat} (h:q<l.length) (hr:(l.getD q b0).red=[]):metE l (q+1)=metE l q:=by
 unfold metE
 rw [metL_none h hr]
theorem get_in {v:List DC} {k:ByteArray}:∀ {L:List ByteArray},k∈L→getM (L.map fun t=>(t,v)) k=some v
 | x :: r,h=>by
  rw [List.map_cons,getM]
  by_cases e:x=k
  ·rw [if_pos e]
  ·rw [if_neg e]
   exact get_in ((List.mem_cons.1 h).elim (fun h=>absurd h.symm e) id)
theorem get_out {v:List DC} {k:ByteArray}:∀ {L:List ByteArray},k ∉ L→getM (L.map fun t=>(t,v)) k=none
 | [],_=>rfl
 | x :: r,h=>by
  rw [List.map_cons,getM,if_neg ?_,get_out fun h2=>h (List.mem_cons_of_mem _ h2)]
  intro e
  have e:x=k:=e
  exact h (by rw [e];exact List.mem_cons_self ..)
theorem put_set {v:List DC} {k:ByteArray}:∀ (L:List ByteArray),k ∉ L→putM (L.map fun t=>(t,v)) k v=(L++[k]).map fun t=>(t,v)
 | [],_=>rfl
 | x :: r,h=>by
  rw [List.map_cons,putM,if_neg ?_,put_set r fun h2=>h (List.mem_cons_of_mem _ h2)]
  ·rfl
  ·intro e
   have e:x=k:=e
   exact h (by rw [e];exact List.mem_cons_self ..)
theorem checkB_c (l:List Bn) (hl:l.length≤1000000) (hx:∀ x∈l,okB x):Con Tryz.prog 20 [.o (.ro 10 l.length (bnC l).cell)] [] 0 0 U (fun _=>.t [.inl (.c (.int .i64 (checkB l).1)),.inl (.c (.int .i64 (checkB l).2))]) G0:=by
 refine con_of Tryz.func20 rfl (by kernel_rfl) Tryz.ntmps20 rfl (by first | exact Nat.zero_le _ | decide) (fun _=>⟨rfl,rfl⟩) fun w S ν=>?_
 have hti:(nds l).length=l.length:=List.length_map ..
 have hxn:∀ x∈l,lenN x.nd:=fun x h=>(hx x h).1.1
 have hxr:∀ x∈nds l,okN x:=fun x h=>by
  obtain ⟨y,hy,rfl⟩:=List.mem_map.1 h
  exact (hx y hy).1
 have hrt:=tree_c l hl hxn
 have hrc:=check_c (nds l) (by omega) hxr
 refine wa ?_
 refine cw (hrt) ?_
 intro _ _
 refine wb ?_
 refine cw (hrc) ?_
 intro _ _
 by_cases hT:(checkT (nds l)).2≠0
 ·have hB:checkB l=checkT (nds l):=if_pos hT
  rw [hB]
  refine wb ?_
  exact po
 have hT:=Decidable.not_not.1 hT
 have hT:Tok (nds l):=hT
 refine wb ?_
 (refine TE.step rfl rfl rfl (fun _ h=>nomatch h) (m_mkMp (.ms false []) (by first | exact .inl ⟨_,rfl⟩ | exact .inr ⟨_,rfl⟩) rfl) ?_;rintro _ rfl)
 refine wb ?_
 refine cw (walk_c l) ?_
 intro _ _
 refine wb ?_
 (refine TE.only [25,6,3,2,1] (by rfl) ?_)
 (refine TE.range rfl (by rfl) (by rfl) (by kernel_rfl) (by rfl) (by rfl) rfl ?_)
 intro l' a1 w0 B0 S0 ν0 L
 (repeat (first|(with_reducible refine AllP.go ?_;(first|exact trivial|exact fun i _=>⟨_,rfl⟩|((try simp only [OS]);repeat' (first|omega|exact fun i _=>⟨_,rfl⟩|refine And.intro ?_ ?_))))|(refine rg ?_ ?_)|(with_reducible first|refine stp ?_|refine tD rfl ?_)|(with_reducible first|exact PanicOk.body|exact rd.panic|refine PanicOk.then' ?_|refine PanicOk.block ?_|refine PanicOk.jump ?_)|(refine dc ?_)|(refine dn ?_)|(refine TL.done (by rfl) ?_)|(refine TL.auto tysOk rfl ?_ (by rfl) ?_ ?_)|((refine TL.one (by rfl) ?_);first|(refine sm ?_ ?_)|(refine sp ?_ ?_))|(refine sm ?_ ?_)|refine ct ?_|refine cf ?_))
 refine TE.nilOwn 3 3 1 (by rfl) ?_
 refine TE.nilOwn 4 9 1 (by rfl) ?_
 refine TE.loopG (fun q:Nat=>q≤l.length∧∀ j,j<q→marksE l j=0) (fun q=>[(10,.o (.c (.int .i64 q))),(3,.o (.own 6)),(4,.o (.own 7))]) [6,7,3] (fun q=>[.own 6 3 1 (skC (stkI (nds l) q)),.own 7 9 1 (paC (pstI (nds l) q)),.obj 3 (.ms false (metE l q))]) (fun q=>l.length - q) 0 (by rfl) ⟨Nat.zero_le _,fun j hj=>absurd hj (Nat.not_lt_zero _)⟩ ?_ ?_
 ·(refine Ent.of rfl rfl (by rfl) ?_;(try (first|exact trivial|((with_reducible refine AllP.go ?_);dsimp only [AllP,appP];repeat' (first|refine And.intro ?_ ?_|exact zz)))))
  ·exact LeDC.nil rfl rfl
  ·exact LeDC.nil rfl rfl
 rintro q ⟨hq,hg⟩
 by_cases hlt:q<l.length
 ·have hxd:((nds l).getD q n0).depth=(l.getD q b0).nd.depth:=by rw [nds_getD]
  have hxnm:((nds l).getD q n0).name=(l.getD q b0).nd.name:=by rw [nds_getD]
  have hks:(skC (stkI (nds l) q)).n=(stkI (nds l) q).length:=rfl
  have hkp:(paC (pstI (nds l) q)).n=(pstI (nds l) q).length:=rfl
  obtain ⟨f1,f2,f3,f4,f5⟩:=walk_facts hT (q:=q) (by omega)
  rw [hxd] at f1 f2 f3
  obtain ⟨d,hd⟩:∃ d,d=(l.getD q b0).nd.depth:=⟨_,rfl⟩
  have ht1:((stkI (nds l) q).take (l.getD q b0).nd.depth.toNat).length=(l.getD q b0).nd.depth.toNat:=by rw [List.length_take];omega
  have ht2:((pstI (nds l) q).take ((l.getD q b0).nd.depth - 1).toNat).length=((l.getD q b0).nd.depth - 1).toNat:=by rw [List.length_take];omega
  refine wa ?_
  refine TE.midG (ι:=Unit) (fun _=>True) (fun _=>[(3,.o (.own 6)),(4,.o (.own 7))]) [6,7] (fun _=>[.own 6 3 1 (skC ((stkI (nds l) q).take (l.getD q b0).nd.depth.toNat)),.own 7 9 1 (paC ((pstI (nds l) q).take ((l.getD q b0).nd.depth - 1).toNat))]) (by rfl) ?_ fun _ _=>?_
  ·(refine TE.drawK (fun i=>!(Nat.beq i 6 || Nat.beq i 7)) (by rfl) (by rfl) (by rfl) ?_)
   (repeat' (first|(with_reducible refine AllP.go ?_;(first|exact trivial|exact fun i _=>⟨_,rfl⟩|((try simp only [OS]);repeat' (first|omega|exact fun i _=>⟨_,rfl⟩|refine And.intro ?_ ?_))))|(with_reducible first|exact PanicOk.body|exact rd.panic|refine PanicOk.then' ?_|refine PanicOk.block ?_|refine PanicOk.jump ?_)|(refine TL.done (by rfl) ?_)|(refine TL.auto tysOk rfl ?_ (by rfl) ?_ ?_)|((refine TL.one (by rfl) ?_);first|(refine sm ?_ ?_)|(refine sp ?_ ?_)|(refine StepL.law rfl rfl rfl (fun _ h=>nomatch h) rfl (m_nilO rfl rfl) (by rfl) ?_;rintro _ rfl)|(refine StepL.law rfl rfl rfl (fun _ h=>nomatch h) rfl (m_cutOwn tysOk rfl (und_slice tysOk rfl) rfl rfl rfl rfl rfl ?_) (by rfl) ?_;rotate_left;rintro _ rfl;rotate_right;first|omega|skip))|(refine sm ?_ ?_)|(refine sp ?_ ?_)|(refine StepL.law rfl rfl rfl (fun _ h=>nomatch h) rfl (m_nilO rfl rfl) (by rfl) ?_;rintro _ rfl)|(refine StepL.law rfl rfl rfl (fun _ h=>nomatch h) rfl (m_cutOwn tysOk rfl (und_slice tysOk rfl) rfl rfl rfl rfl rfl ?_) (by rfl) ?_;rotate_left;rintro _ rfl;rotate_right;first|omega|skip)|((first|refine gl ?_ ?_|refine gc ?_ ?_)<;>intro h<;>(try simp only [NS] at h)<;>(try exact xf))|(refine TL.two (by rfl) ?_ ?_)|(refine TL.three (by rfl) ?_ ?_ ?_)|(refine TL.four (by rfl) ?_ ?_ ?_ ?_)))
   all_goals first | (simp only [Int.toNat_natCast];rw [hks];omega) | skip
   all_goals (repeat (with_reducible first|refine stp ?_|refine tD rfl ?_))
   all_goals (refine TE.at () trivial ?_;(refine Ent.of rfl rfl (by rfl) ?_;(try (first|exact trivial|((with_reducible refine AllP.go ?_);dsimp only [AllP,appP];repeat' (first|refine And.intro ?_ ?_|exact zz))))))
   all_goals first
    | exact head_take (by simp only [Int.toNat_natCast];rw [hks];omega) (by omega)
    | exact head_take (by simp only [Int.toNat_natCast];rw [hkp];omega) (by omega)
  (repeat (with_reducible first|refine stp ?_|refine tD rfl ?_))
  ((refine rg ?_ ?_);try (with_reducible refine AllP.go ?_;(first|exact trivial|exact fun i _=>⟨_,rfl⟩|((try simp only [OS]);repeat' (first|omega|exact fun i _=>⟨_,rfl⟩|refine And.intro ?_ ?_)))))
  refine TE.done (TE.thenN ?_)
  refine TE.seq ?_
  refine TE.midG (ι:=Unit) (fun _=>True) (fun _=>[(4,.o (.own 7)),(7,.o (.c (.int .i64 (aboveI (nds l) q))))]) [7] (fun _=>[.own 7 9 1 (paC (pstI (nds l) (q+1)))]) (by rfl) ?_ fun _ _=>?_
  ·rcases Nat.eq_zero_or_pos q with h0 | h0
   ·subst h0
    obtain ⟨r1,r2,r3⟩:=walk_root hT
    rw [hxd] at r1
    have ht3:((stkI (nds l) 0).take (l.getD 0 b0).nd.depth.toNat).length=0:=by rw [ht1,r1];rfl
    refine wa ?_
    (refine TE.at () trivial ?_;(refine Ent.of rfl rfl (by rfl) ?_;(try (first|exact trivial|((with_reducible refine AllP.go ?_);dsimp only [AllP,appP];repeat' (first|refine And.intro ?_ ?_|exact zz))))))
    rw [r3,List.take_nil,pstI_zero (by omega)]
    exact LeD.refl
   ·obtain ⟨k1,_,_,_,_,k6⟩:=walk_at hT (q:=q) (by omega) h0
    rw [hxd] at k1 k6
    have hix:(((skC ((stkI (nds l) q).take (l.getD q b0).nd.depth.toNat)).n:Int) - 1).toNat=((l.getD q b0).nd.depth - 1).toNat:=by
     show ((((stkI (nds l) q).take (l.getD q b0).nd.depth.toNat).length:Int) - 1).toNat=_
     rw [ht1]
     omega
    have hps:=pstI_succ (l:=nds l) (q:=q) (by omega) h0
    rw [hxd,hxnm] at hps
    refine wa ?_
    (refine TE.at () trivial ?_;(refine Ent.of rfl rfl (by rfl) ?_;(try (first|exact trivial|((with_reducible refine AllP.go ?_);dsimp only [AllP,appP];repeat' (first|refine And.intro ?_ ?_|exact zz))))))
    ·refine congrArg (Value.int _) ?_
     rw [hix,k6,getD_take (by omega)]
    ·exact listC_snoc _ hps (nth1 rfl)
  (refine TE.only [10,9,8,7,6,5,4,3,1,0] (by rfl) ?_)
  have hpl:(pstI (nds l) (q+1)).length≤1000000:=by rw [pstI_path hT (by omega)];have:=(pcheck_iff.1 (path_ok hT q (by omega))).1;omega
  refine wa ?_
  refine cw (cloneO_c (pstI (nds l) (q+1)) hpl) ?_
  intro _ _
  ((refine rn ?_ ?_);try (with_reducible refine AllP.go ?_;(first|exact trivial|exact fun i _=>⟨_,rfl⟩|((try simp only [OS]);repeat' (first|omega|exact fun i _=>⟨_,rfl⟩|refine And.intro ?_ ?_)))))
  (refine TE.freezeN 11 (by rfl) (by rfl) ?_)
  (refine TE.only [54,50,49,10,9,8,4,3,1,0] (by rfl) ?_)
  (refine TE.yield L rfl (by rfl) (by rfl) rfl rfl (by rfl) (by rfl) (by rfl) rfl (by rfl) ?_)
  intro Qr w1 B1 S1 ν1 rd
  (repeat (first|(with_reducible refine AllP.go ?_;(first|exact trivial|exact fun i _=>⟨_,rfl⟩|((try simp only [OS]);repeat' (first|omega|exact fun i _=>⟨_,rfl⟩|refine And.intro ?_ ?_))))|(refine rg ?_ ?_)|(with_reducible first|refine stp ?_|refine tD rfl ?_)|(with_reducible first|exact PanicOk.body|exact rd.panic|refine PanicOk.then' ?_|refine PanicOk.block ?_|refine PanicOk.jump ?_)|(refine dc ?_)|(refine dn ?_)|(refine TL.done (by rfl) ?_)|(refine TL.auto tysOk rfl ?_ (by rfl) ?_ ?_)|((refine TL.one (by rfl) ?_);first|(refine sm ?_ ?_)|(refine sp ?_ ?_))|(refine sm ?_ ?_)|refine ct ?_|refine cf ?_))
  refine rd.begin ?_
  clear rd
  intro w1 B1 S1 ν1 rd
  have hmE:=marksE_X l q
  have hst:=stkI_succ (l:=nds l) (q:=q) (by omega)
  rw [hxd] at hst
  have hpp:pstI (nds l) (q+1)=pathI (nds l) q:=pstI_path hT (by omega)
  have hrl:(l.getD q b0).red=[]↔(l.getD q b0).red.length=0:=List.length_eq_zero_iff.symm
  obtain ⟨x1,x2,x3⟩:=hx _ (getD_mem (d:=b0) hlt)
  have hnext:marksE l q=0→∀ j,j<q+1→marksE l j=0:=fun he j hj=>by
   rcases Nat.lt_or_ge j q with h5 | h5
   ·exact hg j h5
   ·obtain rfl:j=q:=by omega
    exact he
  (repeat (with_reducible first|refine stp ?_|refine tD rfl ?_))
  ((refine rg ?_ ?_);try (with_reducible refine AllP.go ?_;(first|exact trivial|exact fun i _=>⟨_,rfl⟩|((try simp only [OS]);repeat' (first|omega|exact fun i _=>⟨_,rfl⟩|refine And.intro ?_ ?_)))))
  refine TE.done (TE.thenN ?_)
  (refine TE.only [9,8,7,6,3,2,1] (by rfl) ?_)
  cases ho:(l.getD q b0).opq
  ·rw [show (l.getD ((q:Nat):Int).toNat b0).opq=false from ho]
   by_cases hr:(l.getD q b0).red=[]
   ·have hr0:=hrl.1 hr
    rw [marksX_none hr ho] at hmE
    by_cases h5:(l.getD q b0).nd.kind=5
    ·have hi0:0<q:=by
      rcases Nat.eq_zero_or_pos q with e | e
      ·subst e
       have:=(node_zero ((tok_node hT).2.2 0 (by omega))).1
       rw [nds_getD] at this
       unfold placeE at this
       simp only [List.take_zero,List.reverse_nil] at this
       split at this
       ·exact absurd this (by decide)
       ·omega
      ·exact e
     obtain ⟨a1,a2⟩:=above_pos hT hi0 (by omega)
     obtain ⟨k,hk⟩:∃ k:Nat,aboveI (nds l) q=k:=⟨(aboveI (nds l) q).toNat,by omega⟩
     have hu:opqAt l (aboveI (nds l) q)=(l.getD k b0).opq:=by rw [hk];unfold opqAt;simp
     rw [hu] at hmE
     rw [hk] at a1 a2⊢
     refine wa ?_
     rw [show (l.getD ((k:Nat):Int).toNat b0).opq=(l.getD k b0).opq from rfl]
     cases hok:(l.getD k b0).opq
     ·rw [hok,if_neg (by simp)] at hmE
      refine wa ?_
      refine rd.normal ?_
      refine wb ?_
      refine TE.again' (q+1) ⟨by omega,hnext hmE⟩ (by omega) ?_
      (refine Ent.of rfl rfl (by rfl) ?_;(try (first|exact trivial|((with_reducible refine AllP.go ?_);dsimp only [AllP,appP];repeat' (first|refine And.intro ?_ ?_|exact zz)))))
      all_goals first | exact listC_snoc _ hst (nth1 rfl) | exact congrArg (AO.ms false) (metE_none hlt hr).symm
     ·rw [hok,if_pos ⟨h5,rfl⟩] at hmE
      refine wa ?_
      (refine rd.ret ?_;intro w2 B2 S2 ν2 L2;((refine rn ?_ ?_);(repeat' (first|(with_reducible refine AllP.go ?_;(first|exact trivial|exact fun i _=>⟨_,rfl⟩|((try simp only [OS]);repeat' (first|omega|exact fun i _=>⟨_,rfl⟩|refine And.intro ?_ ?_))))|(refine rg ?_ ?_)|(with_reducible first|refine stp ?_|refine tD rfl ?_)|refine ct ?_|refine cf ?_|((refine TE.gsplit (by rfl) (by rfl) ?_ ?_<;>intro h<;>(try simp only [NS] at h)<;>(try exact xf))<;>(refine rn ?_ ?_))|((first|refine gl ?_ ?_|refine gc ?_ ?_)<;>intro h<;>(try simp only [NS] at h)<;>(try exact xf)))));refine TE.iterStop L2 io (by rfl) ?_;(repeat' (first|(with_reducible refine AllP.go ?_;(first|exact trivial|exact fun i _=>⟨_,rfl⟩|((try simp only [OS]);repeat' (first|omega|exact fun i _=>⟨_,rfl⟩|refine And.intro ?_ ?_))))|(refine rg ?_ ?_)|(with_reducible first|refine stp ?_|refine tD rfl ?_)|refine ct ?_|refine cf ?_|((refine TE.gsplit (by rfl) (by rfl) ?_ ?_<;>intro h<;>(try simp only [NS] at h)<;>(try exact xf))<;>(refine rn ?_ ?_))|((first|refine gl ?_ ?_|refine gc ?_ ?_)<;>intro h<;>(try simp only [NS] at h)<;>(try exact xf)))))
      rw [checkB_bad hT hlt hg (by rw [hmE];decide),hmE]
      exact po
    ·rw [if_neg (fun k=>h5 k.1)] at hmE
     (repeat' (first|(with_reducible refine AllP.go ?_;(first|exact trivial|exact fun i _=>⟨_,rfl⟩|((try simp only [OS]);repeat' (first|omega|exact fun i _=>⟨_,rfl⟩|refine And.intro ?_ ?_))))|(refine rg ?_ ?_)|(with_reducible first|refine stp ?_|refine tD rfl ?_)|refine ct ?_|refine cf ?_|((refine TE.gsplit (by rfl) (by rfl) ?_ ?_<;>intro h<;>(try simp only [NS] at h)<;>(try exact xf))<;>(refine rn ?_ ?_))|((first|refine gl ?_ ?_|refine gc ?_ ?_)<;>intro h<;>(try simp only [NS] at h)<;>(try exact xf))))
     all_goals refine rd.normal ?_
     all_goals refine wb ?_
     all_goals refine TE.again' (q+1) ⟨by omega,hnext hmE⟩ (by omega) ?_
     all_goals (refine Ent.of rfl rfl (by rfl) ?_;(try (first|exact trivial|((with_reducible refine AllP.go ?_);dsimp only [AllP,appP];repeat' (first|refine And.intro ?_ ?_|exact zz)))))
     all_goals first | exact listC_snoc _ hst (nth1 rfl) | exact congrArg (AO.ms false) (metE_none hlt hr).symm
   ·have hr0:0<(l.getD q b0).red.length:=List.length_pos_iff.2 hr
    rw [marksX_red hr ho] at hmE
    by_cases hk:(l.getD q b0).nd.kind=1∧q≠0
    ·rw [if_pos hk] at hmE
     have hpc:=print_c (l.getD q b0).red x3 x2
     have hpq:=equalS_c (l.getD q b0).red (pstI (nds l) (q+1)) x2 hpl
     refine wa ?_
     refine cw (hpc) ?_
     intro _ _
     by_cases hp:pcheckE (l.getD q b0).red≠0
     ·rw [if_pos hp] at hmE
      rw [show printE (l.getD q b0).red=(eS,pcheckE (l.getD q b0).red) from if_pos hp]
      refine wb ?_
      (refine rd.ret ?_;intro w2 B2 S2 ν2 L2;((refine rn ?_ ?_);(repeat' (first|(with_reducible refine AllP.go ?_;(first|exact trivial|exact fun i _=>⟨_,rfl⟩|((try simp only [OS]);repeat' (first|omega|exact fun i _=>⟨_,rfl⟩|refine And.intro ?_ ?_))))|(refine rg ?_ ?_)|(with_reducible first|refine stp ?_|refine tD rfl ?_)|refine ct ?_|refine cf ?_|((refine TE.gsplit (by rfl) (by rfl) ?_ ?_<;>intro h<;>(try simp only [NS] at h)<;>(try exact xf))<;>(refine rn ?_ ?_))|((first|refine gl ?_ ?_|refine gc ?_ ?_)<;>intro h<;>(try simp only [NS] at h)<;>(try exact xf)))));refine TE.iterStop L2 io (by rfl) ?_;(repeat' (first|(with_reducible refine AllP.go ?_;(first|exact trivial|exact fun i _=>⟨_,rfl⟩|((try simp only [OS]);repeat' (first|omega|exact fun i _=>⟨_,rfl⟩|refine And.intro ?_ ?_))))|(refine rg ?_ ?_)|(with_reducible first|refine stp ?_|refine tD rfl ?_)|refine ct ?_|refine cf ?_|((refine TE.gsplit (by rfl) (by rfl) ?_ ?_<;>intro h<;>(try simp only [NS] at h)<;>(try exact xf))<;>(refine rn ?_ ?_))|((first|refine gl ?_ ?_|refine gc ?_ ?_)<;>intro h<;>(try simp only [NS] at h)<;>(try exact xf)))))
      rw [checkB_bad hT hlt hg (by rw [hmE];exact hp),hmE]
      exact po
     rw [if_neg hp] at hmE
     rw [show printE (l.getD q b0).red=(textS (l.getD q b0).red,0) from if_neg hp]
     refine wb ?_
     refine cw (hpq) ?_
     intro _ _
     rw [hpp]
     by_cases he:(l.getD q b0).red=pathI (nds l) q
     ·rw [if_pos he] at hmE
      refine wb ?_
      (refine rd.ret ?_;intro w2 B2 S2 ν2 L2;((refine rn ?_ ?_);(repeat' (first|(with_reducible refine AllP.go ?_;(first|exact trivial|exact fun i _=>⟨_,rfl⟩|((try simp only [OS]);repeat' (first|omega|exact fun i _=>⟨_,rfl⟩|refine And.intro ?_ ?_))))|(refine rg ?_ ?_)|(with_reducible first|refine stp ?_|refine tD rfl ?_)|refine ct ?_|refine cf ?_|((refine TE.gsplit (by rfl) (by rfl) ?_ ?_<;>intro h<;>(try simp only [NS] at h)<;>(try exact xf))<;>(refine rn ?_ ?_))|((first|refine gl ?_ ?_|refine gc ?_ ?_)<;>intro h<;>(try simp only [NS] at h)<;>(try exact xf)))));refine TE.iterStop L2 io (by rfl) ?_;(repeat' (first|(with_reducible refine AllP.go ?_;(first|exact trivial|exact fun i _=>⟨_,rfl⟩|((try simp only [OS]);repeat' (first|omega|exact fun i _=>⟨_,rfl⟩|refine And.intro ?_ ?_))))|(refine rg ?_ ?_)|(with_reducible first|refine stp ?_|refine tD rfl ?_)|refine ct ?_|refine cf ?_|((refine TE.gsplit (by rfl) (by rfl) ?_ ?_<;>intro h<;>(try simp only [NS] at h)<;>(try exact xf))<;>(refine rn ?_ ?_))|((first|refine gl ?_ ?_|refine gc ?_ ?_)<;>intro h<;>(try simp only [NS] at h)<;>(try exact xf)))))
      rw [checkB_bad hT hlt hg (by rw [hmE];decide),hmE]
      exact po
     rw [if_neg he] at hmE
     have hmd:=met_dup hlt hg hr (Decidable.not_not.1 hp)
     refine wb ?_
     by_cases hd:dupB l q=true
     ·rw [if_pos hd] at hmE
      have hgt:getM (metE l q) (textS (l.getD q b0).red)=some [.c (.bool true)]:=get_in (hmd.2 hd)
      (refine TE.step rfl rfl rfl (fun _ h=>nomatch h) (m_mpGet (mpS false) rfl (Tryz.underlying95) (Tryz.underlying9) rfl rfl rfl (hgt) rfl) ?_;rintro _ rfl)
      refine wb ?_
      (refine rd.ret ?_;intro w2 B2 S2 ν2 L2;((refine rn ?_ ?_);(repeat' (first|(with_reducible refine AllP.go ?_;(first|exact trivial|exact fun i _=>⟨_,rfl⟩|((try simp only [OS]);repeat' (first|omega|exact fun i _=>⟨_,rfl⟩|refine And.intro ?_ ?_))))|(refine rg ?_ ?_)|(with_reducible first|refine stp ?_|refine tD rfl ?_)|refine ct ?_|refine cf ?_|((refine TE.gsplit (by rfl) (by rfl) ?_ ?_<;>intro h<;>(try simp only [NS] at h)<;>(try exact xf))<;>(refine rn ?_ ?_))|((first|refine gl ?_ ?_|refine gc ?_ ?_)<;>intro h<;>(try simp only [NS] at h)<;>(try exact xf)))));refine TE.iterStop L2 io (by rfl) ?_;(repeat' (first|(with_reducible refine AllP.go ?_;(first|exact trivial|exact fun i _=>⟨_,rfl⟩|((try simp only [OS]);repeat' (first|omega|exact fun i _=>⟨_,rfl⟩|refine And.intro ?_ ?_))))|(refine rg ?_ ?_)|(with_reducible first|refine stp ?_|refine tD rfl ?_)|refine ct ?_|refine cf ?_|((refine TE.gsplit (by rfl) (by rfl) ?_ ?_<;>intro h<;>(try simp only [NS] at h)<;>(try exact xf))<;>(refine rn ?_ ?_))|((first|refine gl ?_ ?_|refine gc ?_ ?_)<;>intro h<;>(try simp only [NS] at h)<;>(try exact xf)))))
      rw [checkB_bad hT hlt hg (by rw [hmE];decide),hmE]
      exact po
     ·rw [if_neg hd] at hmE
      have hgt:getM (metE l q) (textS (l.getD q b0).red)=none:=get_out (fun h=>hd (hmd.1 h))
      have hpt:putM (metE l q) (textS (l.getD q b0).red) [.c (.bool true)]=metE l (q+1):=by
       unfold metE
       rw [metL_some hlt hr]
       exact put_set _ (fun h=>hd (hmd.1 h))
      (refine TE.step rfl rfl rfl (fun _ h=>nomatch h) (m_mpNone tysOk (mpS false) rfl (Tryz.underlying95) (Tryz.underlying9) rfl rfl rfl (hgt) rfl rfl rfl) ?_;rintro _ rfl)
      refine wb ?_
      (refine TE.step rfl rfl rfl (fun _ h=>nomatch h) (m_mpUp (mpS false) rfl rfl (Tryz.underlying95) (Tryz.underlying9) rfl rfl rfl rfl rfl) ?_;rintro _ rfl)
      refine wb ?_
      refine rd.normal ?_
      refine wb ?_
      refine TE.again' (q+1) ⟨by omega,hnext hmE⟩ (by omega) ?_
      (refine Ent.of rfl rfl (by rfl) ?_;(try (first|exact trivial|((with_reducible refine AllP.go ?_);dsimp only [AllP,appP];repeat' (first|refine And.intro ?_ ?_|exact zz)))))
      all_goals first | exact listC_snoc _ hst (nth1 rfl) | exact congrArg (AO.ms false) hpt | (rw [hpp];exact LeD.refl)
    ·rw [if_neg hk] at hmE
     (repeat' (first|(with_reducible refine AllP.go ?_;(first|exact trivial|exact fun i _=>⟨_,rfl⟩|((try simp only [OS]);repeat' (first|omega|exact fun i _=>⟨_,rfl⟩|refine And.intro ?_ ?_))))|(refine rg ?_ ?_)|(with_reducible first|refine stp ?_|refine tD rfl ?_)|refine ct ?_|refine cf ?_|((refine TE.gsplit (by rfl) (by rfl) ?_ ?_<;>intro h<;>(try simp only [NS] at h)<;>(try exact xf))<;>(refine rn ?_ ?_))|((first|refine gl ?_ ?_|refine gc ?_ ?_)<;>intro h<;>(try simp only [NS] at h)<;>(try exact xf))))
     all_goals (refine rd.ret ?_;intro w2 B2 S2 ν2 L2;((refine rn ?_ ?_);(repeat' (first|(with_reducible refine AllP.go ?_;(first|exact trivial|exact fun i _=>⟨_,rfl⟩|((try simp only [OS]);repeat' (first|omega|exact fun i _=>⟨_,rfl⟩|refine And.intro ?_ ?_))))|(refine rg ?_ ?_)|(with_reducible first|refine stp ?_|refine tD rfl ?_)|refine ct ?_|refine cf ?_|((refine TE.gsplit (by rfl) (by rfl) ?_ ?_<;>intro h<;>(try simp only [NS] at h)<;>(try exact xf))<;>(refine rn ?_ ?_))|((first|refine gl ?_ ?_|refine gc ?_ ?_)<;>intro h<;>(try simp only [NS] at h)<;>(try exact xf)))));refine TE.iterStop L2 io (by rfl) ?_;(repeat' (first|(with_reducible refine AllP.go ?_;(first|exact trivial|exact fun i _=>⟨_,rfl⟩|((try simp only [OS]);repeat' (first|omega|exact fun i _=>⟨_,rfl⟩|refine And.intro ?_ ?_))))|(refine rg ?_ ?_)|(with_reducible first|refine stp ?_|refine tD rfl ?_)|refine ct ?_|refine cf ?_|((refine TE.gsplit (by rfl) (by rfl) ?_ ?_<;>intro h<;>(try simp only [NS] at h)<;>(try exact xf))<;>(refine rn ?_ ?_))|((first|refine gl ?_ ?_|refine gc ?_ ?_)<;>intro h<;>(try simp only [NS] at h)<;>(try exact xf)))))
     all_goals rw [checkB_bad hT hlt hg (by rw [hmE];decide),hmE]
     all_goals exact po
  ·rw [show (l.getD ((q:Nat):Int).toNat b0).opq=true from ho]
   by_cases hr:(l.getD q b0).red=[]
   ·have hr0:=hrl.1 hr
    rw [marksX_opq hr ho] at hmE
    by_cases hk:(l.getD q b0).nd.kind=1
    ·rw [if_pos hk] at hmE
     (repeat' (first|(with_reducible refine AllP.go ?_;(first|exact trivial|exact fun i _=>⟨_,rfl⟩|((try simp only [OS]);repeat' (first|omega|exact fun i _=>⟨_,rfl⟩|refine And.intro ?_ ?_))))|(refine rg ?_ ?_)|(with_reducible first|refine stp ?_|refine tD rfl ?_)|refine ct ?_|refine cf ?_|((refine TE.gsplit (by rfl) (by rfl) ?_ ?_<;>intro h<;>(try simp only [NS] at h)<;>(try exact xf))<;>(refine rn ?_ ?_))|((first|refine gl ?_ ?_|refine gc ?_ ?_)<;>intro h<;>(try simp only [NS] at h)<;>(try exact xf))))
     all_goals refine rd.normal ?_
     all_goals refine wb ?_
     all_goals refine TE.again' (q+1) ⟨by omega,hnext hmE⟩ (by omega) ?_
     all_goals (refine Ent.of rfl rfl (by rfl) ?_;(try (first|exact trivial|((with_reducible refine AllP.go ?_);dsimp only [AllP,appP];repeat' (first|refine And.intro ?_ ?_|exact zz)))))
     all_goals first | exact listC_snoc _ hst (nth1 rfl) | exact congrArg (AO.ms false) (metE_none hlt hr).symm
    ·rw [if_neg hk] at hmE
     refine wa ?_
     (refine rd.ret ?_;intro w2 B2 S2 ν2 L2;((refine rn ?_ ?_);(repeat' (first|(with_reducible refine AllP.go ?_;(first|exact trivial|exact fun i _=>⟨_,rfl⟩|((try simp only [OS]);repeat' (first|omega|exact fun i _=>⟨_,rfl⟩|refine And.intro ?_ ?_))))|(refine rg ?_ ?_)|(with_reducible first|refine stp ?_|refine tD rfl ?_)|refine ct ?_|refine cf ?_|((refine TE.gsplit (by rfl) (by rfl) ?_ ?_<;>intro h<;>(try simp only [NS] at h)<;>(try exact xf))<;>(refine rn ?_ ?_))|((first|refine gl ?_ ?_|refine gc ?_ ?_)<;>intro h<;>(try simp only [NS] at h)<;>(try exact xf)))));refine TE.iterStop L2 io (by rfl) ?_;(repeat' (first|(with_reducible refine AllP.go ?_;(first|exact trivial|exact fun i _=>⟨_,rfl⟩|((try simp only [OS]);repeat' (first|omega|exact fun i _=>⟨_,rfl⟩|refine And.intro ?_ ?_))))|(refine rg ?_ ?_)|(with_reducible first|refine stp ?_|refine tD rfl ?_)|refine ct ?_|refine cf ?_|((refine TE.gsplit (by rfl) (by rfl) ?_ ?_<;>intro h<;>(try simp only [NS] at h)<;>(try exact xf))<;>(refine rn ?_ ?_))|((first|refine gl ?_ ?_|refine gc ?_ ?_)<;>intro h<;>(try simp only [NS] at h)<;>(try exact xf)))))
     rw [checkB_bad hT hlt hg (by rw [hmE];decide),hmE]
     exact po
   ·have hr0:0<(l.getD q b0).red.length:=List.length_pos_iff.2 hr
    rw [marksX_both hr ho] at hmE
    by_cases hk:(l.getD q b0).nd.kind=1∧q≠0
    ·rw [if_pos hk] at hmE
     refine wa ?_
     all_goals (refine rd.ret ?_;intro w2 B2 S2 ν2 L2;((refine rn ?_ ?_);(repeat' (first|(with_reducible refine AllP.go ?_;(first|exact trivial|exact fun i _=>⟨_,rfl⟩|((try simp only [OS]);repeat' (first|omega|exact fun i _=>⟨_,rfl⟩|refine And.intro ?_ ?_))))|(refine rg ?_ ?_)|(with_reducible first|refine stp ?_|refine tD rfl ?_)|refine ct ?_|refine cf ?_|((refine TE.gsplit (by rfl) (by rfl) ?_ ?_<;>intro h<;>(try simp only [NS] at h)<;>(try exact xf))<;>(refine rn ?_ ?_))|((first|refine gl ?_ ?_|refine gc ?_ ?_)<;>intro h<;>(try simp only [NS] at h)<;>(try exact xf)))));refine TE.iterStop L2 io (by rfl) ?_;(repeat' (first|(with_reducible refine AllP.go ?_;(first|exact trivial|exact fun i _=>⟨_,rfl⟩|((try simp only [OS]);repeat' (first|omega|exact fun i _=>⟨_,rfl⟩|refine And.intro ?_ ?_))))|(refine rg ?_ ?_)|(with_reducible first|refine stp ?_|refine tD rfl ?_)|refine ct ?_|refine cf ?_|((refine TE.gsplit (by rfl) (by rfl) ?_ ?_<;>intro h<;>(try simp only [NS] at h)<;>(try exact xf))<;>(refine rn ?_ ?_))|((first|refine gl ?_ ?_|refine gc ?_ ?_)<;>intro h<;>(try simp only [NS] at h)<;>(try exact xf)))))
     all_goals rw [checkB_bad hT hlt hg (by rw [hmE];decide),hmE]
     all_goals exact po
    ·rw [if_neg hk] at hmE
     (repeat' (first|(with_reducible refine AllP.go ?_;(first|exact trivial|exact fun i _=>⟨_,rfl⟩|((try simp only [OS]);repeat' (first|omega|exact fun i _=>⟨_,rfl⟩|refine And.intro ?_ ?_))))|(refine rg ?_ ?_)|(with_reducible first|refine stp ?_|refine tD rfl ?_)|refine ct ?_|refine cf ?_|((refine TE.gsplit (by rfl) (by rfl) ?_ ?_<;>intro h<;>(try simp only [NS] at h)<;>(try exact xf))<;>(refine rn ?_ ?_))|((first|refine gl ?_ ?_|refine gc ?_ ?_)<;>intro h<;>(try simp only [NS] at h)<;>(try exact xf))))
     all_goals (refine rd.ret ?_;intro w2 B2 S2 ν2 L2;((refine rn ?_ ?_);(repeat' (first|(with_reducible refine AllP.go ?_;(first|exact trivial|exact fun i _=>⟨_,rfl⟩|((try simp only [OS]);repeat' (first|omega|exact fun i _=>⟨_,rfl⟩|refine And.intro ?_ ?_))))|(refine rg ?_ ?_)|(with_reducible first|refine stp ?_|refine tD rfl ?_)|refine ct ?_|refine cf ?_|((refine TE.gsplit (by rfl) (by rfl) ?_ ?_<;>intro h<;>(try simp only [NS] at h)<;>(try exact xf))<;>(refine rn ?_ ?_))|((first|refine gl ?_ ?_|refine gc ?_ ?_)<;>intro h<;>(try simp only [NS] at h)<;>(try exact xf)))));refine TE.iterStop L2 io (by rfl) ?_;(repeat' (first|(with_reducible refine AllP.go ?_;(first|exact trivial|exact fun i _=>⟨_,rfl⟩|((try simp only [OS]);repeat' (first|omega|exact fun i _=>⟨_,rfl⟩|refine And.intro ?_ ?_))))|(refine rg ?_ ?_)|(with_reducible first|refine stp ?_|refine tD rfl ?_)|refine ct ?_|refine cf ?_|((refine TE.gsplit (by rfl) (by rfl) ?_ ?_<;>intro h<;>(try simp only [NS] at h)<;>(try exact xf))<;>(refine rn ?_ ?_))|((first|refine gl ?_ ?_|refine gc ?_ ?_)<;>intro h<;>(try simp only [NS] at h)<;>(try exact xf)))))
     all_goals rw [checkB_bad hT hlt hg (by rw [hmE];decide),hmE]
     all_goals exact po
 ·obtain rfl:q=l.length:=by omega
  refine wa ?_
  refine TE.iterEnd L (by first | exact .inl rfl | exact .inr rfl) (by rfl) ?_
  refine wa ?_
  rw [checkB_good hT hg]
  exact po
theorem known_c (l:List Bn) (n:Int) (hl:l.length≤1000000) (hx:∀ x∈l,okB x):Con Tryz.prog 48 [.o (.ro 10 l.length (bnC l).cell),.o (.c (.int .i64 n))] [] 0 0 U (fun _=>.o (.c (.int .i64 (knownE l n)))) G0:=by
 refine con_of Tryz.func48 rfl (by kernel_rfl) Tryz.ntmps48 rfl (by first | exact Nat.zero_le _ | decide) (fun _=>⟨rfl,rfl⟩) fun w S ν=>?_
 have hrc:=checkB_c l hl hx
 refine wa ?_
 refine cw (hrc) ?_
 intro _ _
 by_cases h1:(checkB l).2≠0
 ·have hK:knownE l n=(checkB l).2:=if_pos h1
  rw [hK]
  refine wb ?_
  all_goals exact po
 have hK:knownE l n=if n<0∨(l.length:Int)≤n then 4 else 0:=if_neg h1
 by_cases h2:n<0∨(l.length:Int)≤n
 ·rw [if_pos h2] at hK
  rw [hK]
  ((refine rn ?_ ?_);(repeat' (first|(with_reducible refine AllP.go ?_;(first|exact trivial|exact fun i _=>⟨_,rfl⟩|((try simp only [OS]);repeat' (first|omega|exact fun i _=>⟨_,rfl⟩|refine And.intro ?_ ?_))))|(refine rg ?_ ?_)|(with_reducible first|refine stp ?_|refine tD rfl ?_)|refine ct ?_|refine cf ?_|((refine TE.gsplit (by rfl) (by rfl) ?_ ?_<;>intro h<;>(try simp only [NS] at h)<;>(try exact xf))<;>(refine rn ?_ ?_))|((first|refine gl ?_ ?_|refine gc ?_ ?_)<;>intro h<;>(try simp only [NS] at h)<;>(try exact xf)))))
  all_goals exact po
 ·rw [if_neg h2] at hK
  rw [hK]
  refine wb ?_
  all_goals exact po
theorem dirs_c (l:List Bn) (hl:l.length≤1000000) (hx:∀ x∈l,okB x):Con Tryz.prog 14 [.o (.ro 10 l.length (bnC l).cell)] [] 0 0 U (fun _=>.t [.inl (.ro 1 (dirsE l).1.length (skC (dirsE l).1).cell),.inl (.c (.int .i64 (dirsE l).2))]) G0:=by
 refine con_of Tryz.func14 rfl (by kernel_rfl) Tryz.ntmps14 rfl (by first | exact Nat.zero_le _ | decide) (fun _=>⟨rfl,rfl⟩) fun w S ν=>?_
 have hrc:=checkB_c l hl hx
 refine wa ?_
 refine cw (hrc) ?_
 intro _ _
 by_cases h1:(checkB l).2≠0
 ·have hK:dirsE l=([],(checkB l).2):=if_pos h1
  rw [hK]
  refine wb ?_
  exact po
 have hK:dirsE l=(dirsL l,0):=if_neg h1
 rw [hK]
 refine wb ?_
 refine TE.nilOwn 6 3 1 (by rfl) ?_
 (refine TE.only [19,18,17,6,0] (by rfl) ?_)
 refine TE.loopG (fun q:Nat=>q≤l.length) (fun q=>[(19,.o (.c (.int .i64 q))),(6,.o (.own 0))]) [0] (fun q=>[.own 0 3 1 (skC (idxs (fun i=>decide ((l.getD i b0).nd.kind=1)) q))]) (fun q=>l.length - q) 0 (by rfl) (Nat.zero_le _) ?_ ?_
 ·(refine Ent.of rfl rfl (by rfl) ?_;(try (first|exact trivial|((with_reducible refine AllP.go ?_);dsimp only [AllP,appP];repeat' (first|refine And.intro ?_ ?_|exact zz)))))
  exact LeDC.nil rfl rfl
 intro q hq
 by_cases hlt:q<l.length
 ·have hs:=idxs_succ (fun i=>decide ((l.getD i b0).nd.kind=1)) q
  have hn:=idxs_len (fun i=>decide ((l.getD i b0).nd.kind=1)) q
  have hcn:(skC (idxs (fun i=>decide ((l.getD i b0).nd.kind=1)) q)).n≤q:=hn
  by_cases hk:(l.getD q b0).nd.kind=1
  ·rw [if_pos (decide_eq_true hk)] at hs
   refine wa ?_
   refine TE.again' (q+1) (by omega) (by omega) ?_
   (refine Ent.of rfl rfl (by rfl) ?_;(try (first|exact trivial|((with_reducible refine AllP.go ?_);dsimp only [AllP,appP];repeat' (first|refine And.intro ?_ ?_|exact zz)))))
   exact listC_snoc _ hs (nth1 rfl)
  ·rw [if_neg (by simpa using hk)] at hs
   refine wa ?_
   refine TE.again' (q+1) (by omega) (by omega) ?_
   rw [hs]
   exact ee
 ·obtain rfl:q=l.length:=by omega
  refine wa ?_
  (refine TE.freezeN 0 (by rfl) (by rfl) ?_)
  exact po
theorem known_at {l:List Bn} {n:Int} (h:knownE l n=0):∃ k:Nat,n=k∧k<l.length:=by
 unfold knownE at h
 split at h
 ·rename_i k;exact absurd h k
 split at h
 ·exact absurd h (by decide)
 exact ⟨n.toNat,by omega,by omega⟩
theorem names_c (l:List Bn) (i:Nat) (hi:i<l.length) (hl:l.length≤1000000):Con Tryz.prog 49 [.o (.ro 10 l.length (bnC l).cell),.o (.c (.int .i64 i))] [] 0 0 U (fun _=>.o (.ro 1 (namesL l i).length (skC (namesL l i)).cell)) G0:=by
 refine con_of Tryz.func49 rfl (by kernel_rfl) Tryz.ntmps49 rfl (by first | exact Nat.zero_le _ | decide) (fun _=>⟨rfl,rfl⟩) fun w S ν=>?_
 by_cases h0:(l.getD i b0).nd.cls=0
 ·rw [names_zero hi h0]
  refine wa ?_
  (refine TE.freezeN 0 (by rfl) (by rfl) ?_)
  (refine TE.ret' io rfl tysOk (()) ?_ rfl (by rfl) ?_;all_goals (try (first|exact trivial|((with_reducible refine AllP.go ?_);dsimp only [AllP,appP];repeat' (first|refine And.intro ?_ ?_|exact zz)))))
  exact listC_one _ (nth1 rfl)
 refine wa ?_
 refine TE.nilOwn 5 3 1 (by rfl) ?_
 (refine TE.only [18,17,16,5,1,0] (by rfl) ?_)
 refine TE.loopG (fun q:Nat=>q≤l.length) (fun q=>[(18,.o (.c (.int .i64 q))),(5,.o (.own 0))]) [0] (fun q=>[.own 0 3 1 (skC (idxs (namesP l i) q))]) (fun q=>l.length - q) 0 (by rfl) (Nat.zero_le _) ?_ ?_
 ·(refine Ent.of rfl rfl (by rfl) ?_;(try (first|exact trivial|((with_reducible refine AllP.go ?_);dsimp only [AllP,appP];repeat' (first|refine And.intro ?_ ?_|exact zz)))))
  exact LeDC.nil rfl rfl
 intro q hq
 by_cases hlt:q<l.length
 ·have hs:=idxs_succ (namesP l i) q
  have hn:=idxs_len (namesP l i) q
  have hcn:(skC (idxs (namesP l i) q)).n≤q:=hn
  rw [namesP_cls h0] at hs
  by_cases hk:(l.getD q b0).nd.cls=(l.getD i b0).nd.cls
  ·rw [if_pos (decide_eq_true hk)] at hs
   refine wa ?_
   refine we ?_
   refine wa ?_
   refine TE.again' (q+1) (by omega) (by omega) ?_
   (refine Ent.of rfl rfl (by rfl) ?_;(try (first|exact trivial|((with_reducible refine AllP.go ?_);dsimp only [AllP,appP];repeat' (first|refine And.intro ?_ ?_|exact zz)))))
   exact listC_snoc _ hs (nth1 rfl)
  ·rw [if_neg (by simpa using hk)] at hs
   refine wa ?_
   refine we ?_
   refine wa ?_
   refine TE.again' (q+1) (by omega) (by omega) ?_
   rw [hs]
   exact ee
 ·obtain rfl:q=l.length:=by omega
  refine wa ?_
  (refine TE.freezeN 0 (by rfl) (by rfl) ?_)
  exact po
theorem Names_c (l:List Bn) (n:Int) (hl:l.length≤1000000) (hx:∀ x∈l,okB x):Con Tryz.prog 16 [.o (.ro 10 l.length (bnC l).cell),.o (.c (.int .i64 n))] [] 0 0 U (fun _=>.t [.inl (.ro 1 (namesE l n).1.length (skC (namesE l n).1).cell),.inl (.c (.int .i64 (namesE l n).2))]) G0:=by
 refine con_of Tryz.func16 rfl (by kernel_rfl) Tryz.ntmps16 rfl (by first | exact Nat.zero_le _ | decide) (fun _=>⟨rfl,rfl⟩) fun w S ν=>?_
 have hkn:=known_c l n hl hx
 refine wa ?_
 refine cw (hkn) ?_
 intro _ _
 by_cases h1:knownE l n≠0
 ·have hK:namesE l n=([],knownE l n):=if_pos h1
  rw [hK]
  refine wb ?_
  exact po
 have hK:namesE l n=(namesL l n.toNat,0):=if_neg h1
 obtain ⟨k,rfl,hk⟩:=known_at (Decidable.not_not.1 h1)
 rw [Int.toNat_natCast] at hK
 rw [hK]
 have hnc:=names_c l k hk hl
 refine wb ?_
 refine cw (hnc) ?_
 intro _ _
 refine wb ?_
 exact po
theorem equalO_c (l m:List ByteArray) (hl:l.length≤1000000) (hm:m.length≤1000000):Con Tryz.prog 58 [.o (.own 0),.o (.ro 1 m.length (paC m).cell)] [.own 0 9 1 (paC l)] 1 1 U (fun _=>.o (.sb (decide (l=m)))) (fun _=>[.own 0 9 1 (paC l)]):=by
 refine con_of Tryz.func58 rfl (by kernel_rfl) Tryz.ntmps58 rfl (by first | exact Nat.zero_le _ | decide) (fun _=>⟨rfl,rfl⟩) fun w S ν=>?_
 have hln:(paC l).n=l.length:=rfl
 by_cases hlm:l.length=m.length
 ·refine wc ?_
  refine TE.loopG (fun q:Nat=>q≤l.length∧∀ j,j<q→l.getD j eS=m.getD j eS) (fun q=>[(13,.o (.c (.int .i64 q)))]) [] (fun _=>[]) (fun q=>l.length - q) 0 (by rfl) ⟨Nat.zero_le _,fun j hj=>absurd hj (Nat.not_lt_zero _)⟩ ?_ ?_
  ·exact ee
  rintro q ⟨hq,hg⟩
  by_cases hlt:q<l.length
  ·by_cases he:l.getD q eS=m.getD q eS
   ·refine wc ?_
    refine TE.again' (q+1) ⟨by omega,fun j hj=>?_⟩ (by omega) ?_
    ·rcases Nat.lt_or_ge j q with h5 | h5
     ·exact hg j h5
     ·obtain rfl:j=q:=by omega
      exact he
    ·exact ee
   ·have hne:l≠m:=fun e=>he (by rw [e])
    refine wc ?_
    (refine TE.ret' io rfl tysOk (()) ?_ rfl (by rfl) ?_;all_goals (try (first|exact trivial|((with_reducible refine AllP.go ?_);dsimp only [AllP,appP];repeat' (first|refine And.intro ?_ ?_|exact zz)))))
    exact congrArg Value.bool (decide_eq_false hne).symm
  ·have heq:l=m:=plist_eq_of hlm fun k hk=>hg k (by omega)
   refine wc ?_
   (refine TE.ret' io rfl tysOk (()) ?_ rfl (by rfl) ?_;all_goals (try (first|exact trivial|((with_reducible refine AllP.go ?_);dsimp only [AllP,appP];repeat' (first|refine And.intro ?_ ?_|exact zz)))))
   exact congrArg Value.bool (decide_eq_true heq).symm
 ·have hne:l≠m:=fun e=>hlm (by rw [e])
  refine wc ?_
  (refine TE.ret' io rfl tysOk (()) ?_ rfl (by rfl) ?_;all_goals (try (first|exact trivial|((with_reducible refine AllP.go ?_);dsimp only [AllP,appP];repeat' (first|refine And.intro ?_ ?_|exact zz)))))
  exact congrArg Value.bool (decide_eq_false hne).symm
abbrev treesC (l:List Nd):Ct:=litC [[.sl 8 l.length (ndC l).cell]]
theorem tcheck_c (l:List Nd) (hl:l.length≤1000000) (hx:∀ x∈l,okN x):Con Tryz.prog 59 [.o (.own 0)] [.own 0 57 1 (treesC l)] 1 1 U (fun _=>.o (.c (.int .i64 (checkT l).2))) (fun _=>[.own 0 57 1 (treesC l)]):=by
 refine con_of Tryz.func59 rfl (by kernel_rfl) Tryz.ntmps59 rfl (by first | exact Nat.zero_le _ | decide) (fun _=>⟨rfl,rfl⟩) fun w S ν=>?_
 have hc:=check_c l hl hx
 refine wa ?_
 refine TE.loopG (fun q:Nat=>q≤1∧(q=1→(checkT l).2=0)) (fun q=>[(9,.o (.c (.int .i64 q)))]) [] (fun _=>[]) (fun q=>1 - q) 0 (by rfl) ⟨by omega,fun h=>by omega⟩ ?_ ?_
 ·exact ee
 rintro q ⟨hq,hg⟩
 by_cases h0:q=0
 ·subst h0
  refine wa ?_
  refine cw (hc) ?_
  intro _ _
  by_cases he:(checkT l).2≠0
  ·refine wb ?_
   exact po
  ·refine wb ?_
   refine TE.again' 1 ⟨by omega,fun _=>Decidable.not_not.1 he⟩ (by omega) ?_
   exact ee
 ·obtain rfl:q=1:=by omega
  rw [hg rfl]
  refine wa ?_
  exact po
theorem twalk_c (l:List Nd):Con Tryz.prog 60 [.o (.ro 8 l.length (ndC l).cell)] [] 0 1 U (fun _=>.o (.clo 97 [(0,0)])) (fun _=>[.box 0 57 [.ro 8 l.length (ndC l).cell]]):=by
 refine con_of Tryz.func60 rfl (by kernel_rfl) Tryz.ntmps60 rfl (by first | exact Nat.zero_le _ | decide) (fun _=>⟨rfl,rfl⟩) fun w S ν=>?_
 refine wc ?_
 exact po
theorem findI_at {l:List Nd} {p:List ByteArray} {q:Nat} (hq:q<l.length) (hg:∀ j,j<q→pathI l j≠p) (h:pathI l q=p):findI l p=q:=findF_at _ _ _ (Nat.zero_le _) (by omega) (fun j _ hj=>hg j hj) h
theorem findI_none {l:List Nd} {p:List ByteArray} (hg:∀ j,j<l.length→pathI l j≠p):findI l p = -1:=findF_none _ _ fun j _ hj=>hg j (by omega)
theorem tfind_c (l:List Nd) (p:List ByteArray) (hl:l.length≤1000000) (hp:p.length≤1000000) (hT:Tok l):Con Tryz.prog 93 [.o (.ro 8 l.length (ndC l).cell),.o (.ro 1 p.length (paC p).cell)] [] 0 0 U (fun _=>.o (.c (.int .i64 (findI l p)))) G0:=by
 refine con_of Tryz.func93 rfl (by kernel_rfl) Tryz.ntmps93 rfl (by first | exact Nat.zero_le _ | decide) (fun _=>⟨rfl,rfl⟩) fun w S ν=>?_
 refine wa ?_
 refine cw (twalk_c l) ?_
 intro _ _
 refine wb ?_
 (refine TE.range rfl (by rfl) (by rfl) (by kernel_rfl) (by rfl) (by rfl) rfl ?_)
 intro l' a1 w0 B0 S0 ν0 L
 (repeat (first|(with_reducible refine AllP.go ?_;(first|exact trivial|exact fun i _=>⟨_,rfl⟩|((try simp only [OS]);repeat' (first|omega|exact fun i _=>⟨_,rfl⟩|refine And.intro ?_ ?_))))|(refine rg ?_ ?_)|(with_reducible first|refine stp ?_|refine tD rfl ?_)|(with_reducible first|exact PanicOk.body|exact rd.panic|refine PanicOk.then' ?_|refine PanicOk.block ?_|refine PanicOk.jump ?_)|(refine dc ?_)|(refine dn ?_)|(refine TL.done (by rfl) ?_)|(refine TL.auto tysOk rfl ?_ (by rfl) ?_ ?_)|((refine TL.one (by rfl) ?_);first|(refine sm ?_ ?_)|(refine sp ?_ ?_))|(refine sm ?_ ?_)|refine ct ?_|refine cf ?_))
 refine TE.nilOwn 3 9 1 (by rfl) ?_
 refine TE.loopG (fun q:Nat=>q≤l.length∧∀ j,j<q→pathI l j≠p) (fun q=>[(8,.o (.c (.int .i64 q))),(3,.o (.own 3))]) [3] (fun q=>[.own 3 9 1 (paC (pstI l q))]) (fun q=>l.length - q) 0 (by rfl) ⟨Nat.zero_le _,fun j hj=>absurd hj (Nat.not_lt_zero _)⟩ ?_ ?_
 ·(refine Ent.of rfl rfl (by rfl) ?_;(try (first|exact trivial|((with_reducible refine AllP.go ?_);dsimp only [AllP,appP];repeat' (first|refine And.intro ?_ ?_|exact zz)))))
  exact LeDC.nil rfl rfl
 rintro q ⟨hq,hg⟩
 by_cases hlt:q<l.length
 ·have hkp:(paC (pstI l q)).n=(pstI l q).length:=rfl
  obtain ⟨f1,f2,f3,f4,f5⟩:=walk_facts hT (q:=q) hlt
  have hpl:=(pcheck_iff.1 (path_ok hT q hlt)).1
  have hpp:pstI l (q+1)=pathI l q:=pstI_path hT hlt
  have heq:=equalO_c (pathI l q) p (by omega) hp
  rcases Nat.eq_zero_or_pos q with h0 | h0
  ·subst h0
   have e0:pathI l 0=[]:=rfl
   refine wa ?_
   (refine TE.only [26,25,24,8,7,6,3,1,0] (by rfl) ?_)
   (refine TE.yield L rfl (by rfl) (by rfl) rfl rfl (by rfl) (by rfl) (by rfl) rfl (by rfl) ?_)
   intro Qr w1 B1 S1 ν1 rd
   (repeat (first|(with_reducible refine AllP.go ?_;(first|exact trivial|exact fun i _=>⟨_,rfl⟩|((try simp only [OS]);repeat' (first|omega|exact fun i _=>⟨_,rfl⟩|refine And.intro ?_ ?_))))|(refine rg ?_ ?_)|(with_reducible first|refine stp ?_|refine tD rfl ?_)|(with_reducible first|exact PanicOk.body|exact rd.panic|refine PanicOk.then' ?_|refine PanicOk.block ?_|refine PanicOk.jump ?_)|(refine dc ?_)|(refine dn ?_)|(refine TL.done (by rfl) ?_)|(refine TL.auto tysOk rfl ?_ (by rfl) ?_ ?_)|((refine TL.one (by rfl) ?_);first|(refine sm ?_ ?_)|(refine sp ?_ ?_))|(refine sm ?_ ?_)|refine ct ?_|refine cf ?_))
   refine rd.begin ?_
   clear rd
   intro w1 B1 S1 ν1 rd
   have heq0:=equalO_c (pstI l 0) p (by omega) hp
   have e1:pstI l 0=pathI l 0:=rfl
   refine wa ?_
   refine cw (heq0) ?_
   intro _ _
   by_cases hpe:pstI l 0=p
   ·refine wb ?_
    (refine rd.ret ?_;intro w2 B2 S2 ν2 L2;((refine rn ?_ ?_);(repeat' (first|(with_reducible refine AllP.go ?_;(first|exact trivial|exact fun i _=>⟨_,rfl⟩|((try simp only [OS]);repeat' (first|omega|exact fun i _=>⟨_,rfl⟩|refine And.intro ?_ ?_))))|(refine rg ?_ ?_)|(with_reducible first|refine stp ?_|refine tD rfl ?_)|refine ct ?_|refine cf ?_|((refine TE.gsplit (by rfl) (by rfl) ?_ ?_<;>intro h<;>(try simp only [NS] at h)<;>(try exact xf))<;>(refine rn ?_ ?_))|((first|refine gl ?_ ?_|refine gc ?_ ?_)<;>intro h<;>(try simp only [NS] at h)<;>(try exact xf)))));refine TE.iterStop L2 io (by rfl) ?_;(repeat' (first|(with_reducible refine AllP.go ?_;(first|exact trivial|exact fun i _=>⟨_,rfl⟩|((try simp only [OS]);repeat' (first|omega|exact fun i _=>⟨_,rfl⟩|refine And.intro ?_ ?_))))|(refine rg ?_ ?_)|(with_reducible first|refine stp ?_|refine tD rfl ?_)|refine ct ?_|refine cf ?_|((refine TE.gsplit (by rfl) (by rfl) ?_ ?_<;>intro h<;>(try simp only [NS] at h)<;>(try exact xf))<;>(refine rn ?_ ?_))|((first|refine gl ?_ ?_|refine gc ?_ ?_)<;>intro h<;>(try simp only [NS] at h)<;>(try exact xf)))))
    rw [findI_at hlt hg (e1.symm.trans hpe)]
    exact po
   ·refine wb ?_
    refine rd.normal ?_
    refine wb ?_
    refine TE.again' 1 ⟨by omega,fun j hj=>?_⟩ (by omega) ?_
    ·obtain rfl:j=0:=by omega
     exact fun h=>hpe (e1.trans h)
    ·rw [pstI_zero hlt]
     exact ee
  ·obtain ⟨k1,_⟩:=walk_at hT hlt h0
   have hps:=pstI_succ hlt h0
   have ht2:((pstI l q).take ((l.getD q n0).depth - 1).toNat).length=((l.getD q n0).depth - 1).toNat:=by rw [List.length_take];omega
   refine wa ?_
   refine TE.midG (ι:=Unit) (fun _=>True) (fun _=>[(3,.o (.own 3))]) [3] (fun _=>[.own 3 9 1 (paC (pstI l (q+1)))]) (by rfl) ?_ fun _ _=>?_
   ·have hdl:((headC (paC (pstI l q)) ((l.getD ((q:Nat):Int).toNat n0).depth - 1).toNat)).n=((l.getD q n0).depth - 1).toNat:=rfl
    (refine TE.drawK (fun i=>Nat.beq i 4) (by rfl) (by rfl) (by rfl) ?_)
    (repeat' (first|(with_reducible refine AllP.go ?_;(first|exact trivial|exact fun i _=>⟨_,rfl⟩|((try simp only [OS]);repeat' (first|omega|exact fun i _=>⟨_,rfl⟩|refine And.intro ?_ ?_))))|(with_reducible first|exact PanicOk.body|exact rd.panic|refine PanicOk.then' ?_|refine PanicOk.block ?_|refine PanicOk.jump ?_)|(refine TL.done (by rfl) ?_)|(refine TL.auto tysOk rfl ?_ (by rfl) ?_ ?_)|((refine TL.one (by rfl) ?_);first|(refine sm ?_ ?_)|(refine sp ?_ ?_)|(refine StepL.law rfl rfl rfl (fun _ h=>nomatch h) rfl (m_nilO rfl rfl) (by rfl) ?_;rintro _ rfl)|(refine StepL.law rfl rfl rfl (fun _ h=>nomatch h) rfl (m_cutOwn tysOk rfl (und_slice tysOk rfl) rfl rfl rfl rfl rfl ?_) (by rfl) ?_;rotate_left;rintro _ rfl;rotate_right;first|omega|skip))|(refine sm ?_ ?_)|(refine sp ?_ ?_)|(refine StepL.law rfl rfl rfl (fun _ h=>nomatch h) rfl (m_nilO rfl rfl) (by rfl) ?_;rintro _ rfl)|(refine StepL.law rfl rfl rfl (fun _ h=>nomatch h) rfl (m_cutOwn tysOk rfl (und_slice tysOk rfl) rfl rfl rfl rfl rfl ?_) (by rfl) ?_;rotate_left;rintro _ rfl;rotate_right;first|omega|skip)|((first|refine gl ?_ ?_|refine gc ?_ ?_)<;>intro h<;>(try simp only [NS] at h)<;>(try exact xf))|(refine TL.two (by rfl) ?_ ?_)|(refine TL.three (by rfl) ?_ ?_ ?_)|(refine TL.four (by rfl) ?_ ?_ ?_ ?_)))
    all_goals first | (simp only [Int.toNat_natCast];rw [hkp];omega) | skip
    all_goals (repeat (with_reducible first|refine stp ?_|refine tD rfl ?_))
    all_goals (refine TE.at () trivial ?_;(refine Ent.of rfl rfl (by rfl) ?_;(try (first|exact trivial|((with_reducible refine AllP.go ?_);dsimp only [AllP,appP];repeat' (first|refine And.intro ?_ ?_|exact zz))))))
    all_goals exact (LeDC.app (head_take (by simp only [Int.toNat_natCast]) (by omega)) (LeDC.refl _ _)).trans (listC_snoc _ hps (nth1 rfl))
   (refine TE.only [8,7,6,4,3,1,0] (by rfl) ?_)
   refine wa ?_
   (refine TE.only [26,25,24,8,7,6,3,1,0] (by rfl) ?_)
   (refine TE.yield L rfl (by rfl) (by rfl) rfl rfl (by rfl) (by rfl) (by rfl) rfl (by rfl) ?_)
   intro Qr w1 B1 S1 ν1 rd
   (repeat (first|(with_reducible refine AllP.go ?_;(first|exact trivial|exact fun i _=>⟨_,rfl⟩|((try simp only [OS]);repeat' (first|omega|exact fun i _=>⟨_,rfl⟩|refine And.intro ?_ ?_))))|(refine rg ?_ ?_)|(with_reducible first|refine stp ?_|refine tD rfl ?_)|(with_reducible first|exact PanicOk.body|exact rd.panic|refine PanicOk.then' ?_|refine PanicOk.block ?_|refine PanicOk.jump ?_)|(refine dc ?_)|(refine dn ?_)|(refine TL.done (by rfl) ?_)|(refine TL.auto tysOk rfl ?_ (by rfl) ?_ ?_)|((refine TL.one (by rfl) ?_);first|(refine sm ?_ ?_)|(refine sp ?_ ?_))|(refine sm ?_ ?_)|refine ct ?_|refine cf ?_))
   refine rd.begin ?_
   clear rd
   intro w1 B1 S1 ν1 rd
   have heq0:=equalO_c (pstI l (q+1)) p (by rw [hpp];omega) hp
   refine wa ?_
   refine cw (heq0) ?_
   intro _ _
   by_cases hpe:pstI l (q+1)=p
   ·refine wb ?_
    (refine rd.ret ?_;intro w2 B2 S2 ν2 L2;((refine rn ?_ ?_);(repeat' (first|(with_reducible refine AllP.go ?_;(first|exact trivial|exact fun i _=>⟨_,rfl⟩|((try simp only [OS]);repeat' (first|omega|exact fun i _=>⟨_,rfl⟩|refine And.intro ?_ ?_))))|(refine rg ?_ ?_)|(with_reducible first|refine stp ?_|refine tD rfl ?_)|refine ct ?_|refine cf ?_|((refine TE.gsplit (by rfl) (by rfl) ?_ ?_<;>intro h<;>(try simp only [NS] at h)<;>(try exact xf))<;>(refine rn ?_ ?_))|((first|refine gl ?_ ?_|refine gc ?_ ?_)<;>intro h<;>(try simp only [NS] at h)<;>(try exact xf)))));refine TE.iterStop L2 io (by rfl) ?_;(repeat' (first|(with_reducible refine AllP.go ?_;(first|exact trivial|exact fun i _=>⟨_,rfl⟩|((try simp only [OS]);repeat' (first|omega|exact fun i _=>⟨_,rfl⟩|refine And.intro ?_ ?_))))|(refine rg ?_ ?_)|(with_reducible first|refine stp ?_|refine tD rfl ?_)|refine ct ?_|refine cf ?_|((refine TE.gsplit (by rfl) (by rfl) ?_ ?_<;>intro h<;>(try simp only [NS] at h)<;>(try exact xf))<;>(refine rn ?_ ?_))|((first|refine gl ?_ ?_|refine gc ?_ ?_)<;>intro h<;>(try simp only [NS] at h)<;>(try exact xf)))))
    rw [findI_at hlt hg (hpp.symm.trans hpe)]
    exact po
   ·refine wb ?_
    refine rd.normal ?_
    refine wb ?_
    refine TE.again' (q+1) ⟨by omega,fun j hj=>?_⟩ (by omega) ?_
    ·rcases Nat.lt_or_ge j q with h4 | h4
     ·exact hg j h4
     ·obtain rfl:j=q:=by omega
      exact fun h=>hpe (hpp.trans h)
    ·exact ee
 ·obtain rfl:q=l.length:=by omega
  refine wa ?_
  refine TE.iterEnd L (by first | exact .inl rfl | exact .inr rfl) (by rfl) ?_
  refine wa ?_
  rw [findI_none hg]
  exact po
def okP (p:List ByteArray):Prop:=p.length≤1000000∧∀ s∈p,s.size≤1000000000
theorem tFind_c (l:List Nd) (p:List ByteArray) (hl:l.length≤1000000) (hx:∀ x∈l,okN x) (hp:okP p):Con Tryz.prog 50 [.o (.ro 8 l.length (ndC l).cell),.o (.ro 1 p.length (paC p).cell)] [] 0 0 U (fun _=>.t [.inl (.c (.int .i64 (findE l p).1)),.inl (.c (.int .i64 (findE l p).2))]) G0:=by
 refine con_of Tryz.func50 rfl (by kernel_rfl) Tryz.ntmps50 rfl (by first | exact Nat.zero_le _ | decide) (fun _=>⟨rfl,rfl⟩) fun w S ν=>?_
 have htc:=tcheck_c l hl hx
 refine wa ?_
 refine cw (htc) ?_
 intro _ _
 by_cases h1:(checkT l).2≠0
 ·rw [show findE l p=(0,(checkT l).2) from if_pos h1]
  refine wb ?_
  exact po
 have hE:findE l p=if pcheckE p≠0 then (0,pcheckE p) else if findI l p<0 then (0,4) else (findI l p,0):=if_neg h1
 have h1:=Decidable.not_not.1 h1
 have hT:Tok l:=h1
 refine wb ?_
 refine cw (pCheck_c p hp.2 hp.1) ?_
 intro _ _
 by_cases h2:pcheckE p≠0
 ·rw [if_pos h2] at hE
  rw [hE]
  refine wb ?_
  exact po
 rw [if_neg h2] at hE
 have hf:=tfind_c l p hl hp.1 hT
 refine wb ?_
 refine cw (hf) ?_
 intro _ _
 by_cases h3:findI l p<0
 ·rw [if_pos h3] at hE
  rw [hE]
  refine wb ?_
  exact po
 ·rw [if_neg h3] at hE
  rw [hE]
  refine wb ?_
  exact po
theorem okn_nds {l:List Bn} (hx:∀ x∈l,okB x):∀ x∈nds l,okN x:=fun x h=>by
 obtain ⟨y,hy,rfl⟩:=List.mem_map.1 h
 exact (hx y hy).1
theorem at_c (l:List Bn) (p:List ByteArray) (hl:l.length≤1000000) (hx:∀ x∈l,okB x) (hp:okP p):Con Tryz.prog 17 [.o (.ro 10 l.length (bnC l).cell),.o (.ro 1 p.length (paC p).cell)] [] 0 0 U (fun _=>.t [.inl (.c (.int .i64 (atE l p).1)),.inl (.c (.int .i64 (atE l p).2))]) G0:=by
 refine con_of Tryz.func17 rfl (by kernel_rfl) Tryz.ntmps17 rfl (by first | exact Nat.zero_le _ | decide) (fun _=>⟨rfl,rfl⟩) fun w S ν=>?_
 have hrc:=checkB_c l hl hx
 have hti:(nds l).length=l.length:=List.length_map ..
 have hrt:=tree_c l hl fun x h=>(hx x h).1.1
 have hf:=tFind_c (nds l) p (by omega) (okn_nds hx) hp
 refine wa ?_
 refine cw (hrc) ?_
 intro _ _
 by_cases h1:(checkB l).2≠0
 ·rw [show atE l p=(0,(checkB l).2) from if_pos h1]
  refine wb ?_
  exact po
 rw [show atE l p=findE (nds l) p from if_neg h1]
 refine wb ?_
 refine cw (hrt) ?_
 intro _ _
 refine wb ?_
 refine cw (hf) ?_
 intro _ _
 refine wb ?_
 exact po
end Go.Proofs.YtalmoocpebhoiaaGreatDoor.Am
namespace Go.Proofs.YtalmoocpebhoiaaGreatDoor.Am
open Go.RowKit Lw
open Br Wo
theorem writeO_c (m:Int) (te:TypeId) (pe:Value) (n:Nd) (p:List ByteArray) (hf:fieldsE n=0) (ha:At.checkE n.attrs=0) (hc:0≤n.cls∧n.cls≤120) (hp:pcheckE p=0):Con Tryz.prog 62 [.g (ndA n),.o (.own 5)] (glT m te pe++[.own 5 9 1 (paC p)]) 6 6 U (fun _=>.o (.c (.string (sB (rowT n p))))) (fun _=>glT m te pe++[.own 5 9 1 (paC p)]):=
 (write_c m te pe n p hf ha hc hp).borrow 9 1 (paC p) ⟨.inl ⟨rfl,rfl⟩,.inr ⟨rfl,rfl⟩,trivial⟩ rfl (fun _=>rfl) rfl (fun _=>rfl)
theorem tPrint_c (m:Int) (te:TypeId) (pe:Value) (l:List Nd) (hl:l.length≤1000000) (hx:∀ x∈l,okN x):Con Tryz.prog 21 [.o (.ro 8 l.length (ndC l).cell)] (glT m te pe) 5 5 U (fun _=>.t [.inl (.c (.string (sB (printT l).1))),.inl (.c (.int .i64 (printT l).2))]) (fun _=>glT m te pe):=by
 refine con_of Tryz.func21 rfl (by kernel_rfl) Tryz.ntmps21 rfl (by first | exact Nat.zero_le _ | decide) (fun _=>⟨rfl,rfl⟩) fun w S ν=>?_
 have htc:=tcheck_c l hl hx
 refine wa ?_
 refine cw (htc) ?_
 intro _ _
 by_cases h1:(checkT l).2≠0
 ·rw [show printT l=([],(checkT l).2) from if_pos h1]
  refine wb ?_
  exact po
 have hE:printT l=(textT l l.length,0):=if_neg h1
 have h1:=Decidable.not_not.1 h1
 have hT:Tok l:=h1
 refine wb ?_
 refine cw (twalk_c l) ?_
 intro _ _
 refine wb ?_
 (refine TE.range rfl (by rfl) (by rfl) (by kernel_rfl) (by rfl) (by rfl) rfl ?_)
 intro l' a1 w0 B0 S0 ν0 L
 (repeat (first|(with_reducible refine AllP.go ?_;(first|exact trivial|exact fun i _=>⟨_,rfl⟩|((try simp only [OS]);repeat' (first|omega|exact fun i _=>⟨_,rfl⟩|refine And.intro ?_ ?_))))|(refine rg ?_ ?_)|(with_reducible first|refine stp ?_|refine tD rfl ?_)|(with_reducible first|exact PanicOk.body|exact rd.panic|refine PanicOk.then' ?_|refine PanicOk.block ?_|refine PanicOk.jump ?_)|(refine dc ?_)|(refine dn ?_)|(refine TL.done (by rfl) ?_)|(refine TL.auto tysOk rfl ?_ (by rfl) ?_ ?_)|((refine TL.one (by rfl) ?_);first|(refine sm ?_ ?_)|(refine sp ?_ ?_))|(refine sm ?_ ?_)|refine ct ?_|refine cf ?_))
 refine TE.nilBox 7 1 5 1 (by rfl) (by rfl) ?_
 refine TE.nilOwn 3 9 1 (by rfl) ?_
 refine TE.loop' (ι:=Nat) (fun q=>q≤l.length)
  (fun q=>match q with
  | 0=>⟨[(8,.o (.c (.int .i64 (0:Nat)))),(7,.o (.c (.int .i64 l.length))),(6,.o (.ro 8 l.length (ndC l).cell)),(3,.o (.own 10)),(0,.o (.c (.func (.yield l') #[] #[]))),(1,.o (.ptr 8 0))],.own 10 9 1 (paC (pstI l 0)) :: .own 9 5 1 (bytesC (textT l 0)) :: .box 8 57 [.ro 8 l.length (ndC l).cell] :: .box 5 57 [.ro 8 l.length (ndC l).cell] :: .box 7 100 [.c (.pointer none),.own 9] :: glT m te pe,11⟩
  | q+1=>⟨[(8,.o (.c (.int .i64 (q+1:Nat)))),(7,.o (.c (.int .i64 l.length))),(6,.o (.ro 8 l.length (ndC l).cell)),(3,.o (.own 10)),(0,.o (.c (.func (.yield l') #[] #[]))),(1,.o (.ptr 8 0))],.own 10 9 1 (paC (pstI l (q+1))) :: .own 9 5 1 (bytesC (textT l (q+1))) :: .box 8 57 [.ro 8 l.length (ndC l).cell] :: .box 5 57 [.ro 8 l.length (ndC l).cell] :: .box 7 100 [.ptr 7 0,.own 9] :: glT m te pe,11⟩)
  (fun q=>l.length - q) 0 (Nat.zero_le _) ?_ ?_
 ·(refine Ent.of rfl rfl (by rfl) ?_;(try (first|exact trivial|((with_reducible refine AllP.go ?_);dsimp only [AllP,appP];repeat' (first|refine And.intro ?_ ?_|exact zz)))))
  ·exact LeDC.nil rfl rfl
  ·exact LeDC.nil rfl rfl
 have h0l:0<l.length:=(tok_node hT).1
 rintro (_ | q) hq
 ·have e0:pstI l 0=[]:=rfl
  have e1:pathI l 0=[]:=rfl
  have hn0:=node_zero ((tok_node hT).2.2 0 h0l)
  have hw:=writeO_c m te pe (l.getD 0 n0) (pstI l 0) hn0.2.1 hn0.2.2.1 (cls_le hT h0l) (by rw [e0];decide)
  have hrow:=row_le hT h0l
  refine wa ?_
  (refine TE.only [26,25,24,8,7,6,3,1,0] (by rfl) ?_)
  (refine TE.yield L rfl (by rfl) (by rfl) rfl rfl (by rfl) (by rfl) (by rfl) rfl (by rfl) ?_)
  intro Qr w1 B1 S1 ν1 rd
  (repeat (first|(with_reducible refine AllP.go ?_;(first|exact trivial|exact fun i _=>⟨_,rfl⟩|((try simp only [OS]);repeat' (first|omega|exact fun i _=>⟨_,rfl⟩|refine And.intro ?_ ?_))))|(refine rg ?_ ?_)|(with_reducible first|refine stp ?_|refine tD rfl ?_)|(with_reducible first|exact PanicOk.body|exact rd.panic|refine PanicOk.then' ?_|refine PanicOk.block ?_|refine PanicOk.jump ?_)|(refine dc ?_)|(refine dn ?_)|(refine TL.done (by rfl) ?_)|(refine TL.auto tysOk rfl ?_ (by rfl) ?_ ?_)|((refine TL.one (by rfl) ?_);first|(refine sm ?_ ?_)|(refine sp ?_ ?_))|(refine sm ?_ ?_)|refine ct ?_|refine cf ?_))
  refine rd.begin ?_
  clear rd
  intro w1 B1 S1 ν1 rd
  refine wa ?_
  refine cw (hw) ?_
  intro _ _
  ((refine rn ?_ ?_);try (with_reducible refine AllP.go ?_;(first|exact trivial|exact fun i _=>⟨_,rfl⟩|((try simp only [OS]);repeat' (first|omega|exact fun i _=>⟨_,rfl⟩|refine And.intro ?_ ?_)))))
  refine cw (blWSN_c [] (rowT (l.getD 0 n0) (pstI l 0)) (by rw [e0,← e1];simp only [List.length_nil];omega)) ?_
  intro _ _
  refine wb ?_
  refine rd.normal ?_
  refine wb ?_
  refine TE.again' (0+1) h0l (by omega) ?_
  have g1:pstI l (0+1)=pstI l 0:=pstI_zero h0l
  have g2:textT l (0+1)=[]++rowT (l.getD 0 n0) (pstI l 0):=textT_succ l 0
  (refine Ent.of rfl rfl (by rfl) ?_;(try (first|exact trivial|((with_reducible refine AllP.go ?_);dsimp only [AllP,appP];repeat' (first|refine And.intro ?_ ?_|exact zz)))))
  ·rw [g1]
   exact LeD.refl
  ·rw [g2]
   exact LeD.refl
 have hq1:q+1≤l.length:=hq
 by_cases hlt:q+1<l.length
 ·have hkp:(paC (pstI l (q+1))).n=(pstI l (q+1)).length:=rfl
  obtain ⟨f1,f2,f3,f4,f5⟩:=walk_facts hT (q:=q+1) hlt
  have hpp:pstI l (q+1+1)=pathI l (q+1):=pstI_path hT hlt
  have hpo:=path_ok hT (q+1) hlt
  have hn0:=node_zero ((tok_node hT).2.2 (q+1) hlt)
  have hw:=writeO_c m te pe (l.getD (q+1) n0) (pstI l (q+1+1)) hn0.2.1 hn0.2.2.1 (cls_le hT hlt) (by rw [hpp];exact hpo)
  have hrow:=row_le hT hlt
  have htx:=text_le hT (q+1) hq1
  have hl120:=(tok_node hT).2.1
  obtain ⟨k1,_⟩:=walk_at hT hlt (Nat.succ_pos q)
  have hps:=pstI_succ hlt (Nat.succ_pos q)
  have ht2:((pstI l (q+1)).take ((l.getD (q+1) n0).depth - 1).toNat).length=((l.getD (q+1) n0).depth - 1).toNat:=by rw [List.length_take];omega
  refine wa ?_
  refine TE.midG (ι:=Unit) (fun _=>True) (fun _=>[(3,.o (.own 10))]) [10] (fun _=>[.own 10 9 1 (paC (pstI l (q+1+1)))]) (by rfl) ?_ fun _ _=>?_
  ·have hdl:((headC (paC (pstI l (q+1))) ((l.getD (((q+1:Nat)):Int).toNat n0).depth - 1).toNat)).n=((l.getD (q+1) n0).depth - 1).toNat:=rfl
   (refine TE.drawK (fun i=>Nat.beq i 11) (by rfl) (by rfl) (by rfl) ?_)
   (repeat' (first|(with_reducible refine AllP.go ?_;(first|exact trivial|exact fun i _=>⟨_,rfl⟩|((try simp only [OS]);repeat' (first|omega|exact fun i _=>⟨_,rfl⟩|refine And.intro ?_ ?_))))|(with_reducible first|exact PanicOk.body|exact rd.panic|refine PanicOk.then' ?_|refine PanicOk.block ?_|refine PanicOk.jump ?_)|(refine TL.done (by rfl) ?_)|(refine TL.auto tysOk rfl ?_ (by rfl) ?_ ?_)|((refine TL.one (by rfl) ?_);first|(refine sm ?_ ?_)|(refine sp ?_ ?_)|(refine StepL.law rfl rfl rfl (fun _ h=>nomatch h) rfl (m_nilO rfl rfl) (by rfl) ?_;rintro _ rfl)|(refine StepL.law rfl rfl rfl (fun _ h=>nomatch h) rfl (m_cutOwn tysOk rfl (und_slice tysOk rfl) rfl rfl rfl rfl rfl ?_) (by rfl) ?_;rotate_left;rintro _ rfl;rotate_right;first|omega|skip))|(refine sm ?_ ?_)|(refine sp ?_ ?_)|(refine StepL.law rfl rfl rfl (fun _ h=>nomatch h) rfl (m_nilO rfl rfl) (by rfl) ?_;rintro _ rfl)|(refine StepL.law rfl rfl rfl (fun _ h=>nomatch h) rfl (m_cutOwn tysOk rfl (und_slice tysOk rfl) rfl rfl rfl rfl rfl ?_) (by rfl) ?_;rotate_left;rintro _ rfl;rotate_right;first|omega|skip)|((first|refine gl ?_ ?_|refine gc ?_ ?_)<;>intro h<;>(try simp only [NS] at h)<;>(try exact xf))|(refine TL.two (by rfl) ?_ ?_)|(refine TL.three (by rfl) ?_ ?_ ?_)|(refine TL.four (by rfl) ?_ ?_ ?_ ?_)))
   all_goals first | (simp only [Int.toNat_natCast];rw [hkp];omega) | skip
   all_goals (repeat (with_reducible first|refine stp ?_|refine tD rfl ?_))
   all_goals (refine TE.at () trivial ?_;(refine Ent.of rfl rfl (by rfl) ?_;(try (first|exact trivial|((with_reducible refine AllP.go ?_);dsimp only [AllP,appP];repeat' (first|refine And.intro ?_ ?_|exact zz))))))
   all_goals exact (LeDC.app (head_take (by simp only [Int.toNat_natCast]) (by omega)) (LeDC.refl _ _)).trans (listC_snoc _ hps (nth1 rfl))
  (refine TE.only [8,7,6,4,3,1,0] (by rfl) ?_)
  refine wa ?_
  (refine TE.only [26,25,24,8,7,6,3,1,0] (by rfl) ?_)
  (refine TE.yield L rfl (by rfl) (by rfl) rfl rfl (by rfl) (by rfl) (by rfl) rfl (by rfl) ?_)
  intro Qr w1 B1 S1 ν1 rd
  (repeat (first|(with_reducible refine AllP.go ?_;(first|exact trivial|exact fun i _=>⟨_,rfl⟩|((try simp only [OS]);repeat' (first|omega|exact fun i _=>⟨_,rfl⟩|refine And.intro ?_ ?_))))|(refine rg ?_ ?_)|(with_reducible first|refine stp ?_|refine tD rfl ?_)|(with_reducible first|exact PanicOk.body|exact rd.panic|refine PanicOk.then' ?_|refine PanicOk.block ?_|refine PanicOk.jump ?_)|(refine dc ?_)|(refine dn ?_)|(refine TL.done (by rfl) ?_)|(refine TL.auto tysOk rfl ?_ (by rfl) ?_ ?_)|((refine TL.one (by rfl) ?_);first|(refine sm ?_ ?_)|(refine sp ?_ ?_))|(refine sm ?_ ?_)|refine ct ?_|refine cf ?_))
  refine rd.begin ?_
  clear rd
  intro w1 B1 S1 ν1 rd
  refine wa ?_
  refine cw (hw) ?_
  intro _ _
  ((refine rn ?_ ?_);try (with_reducible refine AllP.go ?_;(first|exact trivial|exact fun i _=>⟨_,rfl⟩|((try simp only [OS]);repeat' (first|omega|exact fun i _=>⟨_,rfl⟩|refine And.intro ?_ ?_)))))
  refine cw (blWS_c (textT l (q+1)) (rowT (l.getD (q+1) n0) (pstI l (q+1+1))) (by rw [hpp];omega)) ?_
  intro _ _
  refine wb ?_
  refine rd.normal ?_
  refine wb ?_
  refine TE.again' (q+1+1) hlt (by omega) ?_
  have g2:textT l (q+1+1)=textT l (q+1)++rowT (l.getD (q+1) n0) (pstI l (q+1+1)):=by rw [textT_succ,hpp]
  (refine Ent.of rfl rfl (by rfl) ?_;(try (first|exact trivial|((with_reducible refine AllP.go ?_);dsimp only [AllP,appP];repeat' (first|refine And.intro ?_ ?_|exact zz)))))
  rw [g2]
  exact LeD.refl
 ·obtain hll:l.length=q+1:=by omega
  have hne:textT l (q+1)≠[]:=fun e=>by
   have:=congrArg List.length e
   rw [textT_succ,List.length_append] at this
   unfold rowT at this
   simp at this
  refine wa ?_
  refine TE.iterEnd L (by first | exact .inl rfl | exact .inr rfl) (by rfl) ?_
  refine wa ?_
  refine cw (blStr_c (textT l (q+1)) hne) ?_
  intro _ _
  refine wb ?_
  rw [hE,hll]
  exact po
end Go.Proofs.YtalmoocpebhoiaaGreatDoor.Am
namespace Go.Proofs.YtalmoocpebhoiaaGreatDoor.Am
open Go.RowKit Lw
open Br
theorem known_bok {l:List Bn} {n:Int} (h:knownE l n=0):Bok l:=by
 unfold knownE at h
 split at h
 ·rename_i c;exact absurd h c
 ·rename_i c;exact Decidable.not_not.1 c
theorem Kids_c (l:List Bn) (n:Int) (hl:l.length≤1000000) (hx:∀ x∈l,okB x):Con Tryz.prog 15 [.o (.ro 10 l.length (bnC l).cell),.o (.c (.int .i64 n))] [] 0 0 U (fun _=>.t [.inl (.ro 1 (kidsE l n).1.length (skC (kidsE l n).1).cell),.inl (.c (.int .i64 (kidsE l n).2))]) G0:=by
 refine con_of Tryz.func15 rfl (by kernel_rfl) Tryz.ntmps15 rfl (by first | exact Nat.zero_le _ | decide) (fun _=>⟨rfl,rfl⟩) fun w S ν=>?_
 have hti:(nds l).length=l.length:=List.length_map ..
 have hkn:=known_c l n hl hx
 refine wa ?_
 refine cw (hkn) ?_
 intro _ _
 by_cases h1:knownE l n≠0
 ·rw [show kidsE l n=([],knownE l n) from if_pos h1]
  refine wb ?_
  exact po
 have hK:kidsE l n=if (l.getD n.toNat b0).nd.kind≠1 then ([],14) else (kidsL l n,0):=if_neg h1
 have h1:=Decidable.not_not.1 h1
 obtain ⟨k,rfl,hk⟩:=known_at h1
 have hT:Tok (nds l):=bok_tok (known_bok h1)
 rw [Int.toNat_natCast] at hK
 by_cases h2:(l.getD k b0).nd.kind≠1
 ·rw [if_pos h2] at hK
  rw [hK]
  refine wb ?_
  exact po
 rw [if_neg h2] at hK
 rw [hK]
 refine wb ?_
 refine cw (walk_c l) ?_
 intro _ _
 refine wb ?_
 (refine TE.only [23,7,3] (by rfl) ?_)
 (refine TE.range rfl (by rfl) (by rfl) (by kernel_rfl) (by rfl) (by rfl) rfl ?_)
 intro l' a1 w0 B0 S0 ν0 L
 (repeat (first|(with_reducible refine AllP.go ?_;(first|exact trivial|exact fun i _=>⟨_,rfl⟩|((try simp only [OS]);repeat' (first|omega|exact fun i _=>⟨_,rfl⟩|refine And.intro ?_ ?_))))|(refine rg ?_ ?_)|(with_reducible first|refine stp ?_|refine tD rfl ?_)|(with_reducible first|exact PanicOk.body|exact rd.panic|refine PanicOk.then' ?_|refine PanicOk.block ?_|refine PanicOk.jump ?_)|(refine dc ?_)|(refine dn ?_)|(refine TL.done (by rfl) ?_)|(refine TL.auto tysOk rfl ?_ (by rfl) ?_ ?_)|((refine TL.one (by rfl) ?_);first|(refine sm ?_ ?_)|(refine sp ?_ ?_))|(refine sm ?_ ?_)|refine ct ?_|refine cf ?_))
 refine TE.nilOwn 3 3 1 (by rfl) ?_
 refine TE.nilOwn 4 9 1 (by rfl) ?_
 refine TE.nilBox 1 0 3 1 (by rfl) (by rfl) ?_
 refine TE.loopG (fun q:Nat=>q≤l.length∧True) (fun q=>[(10,.o (.c (.int .i64 q))),(3,.o (.own 3)),(4,.o (.own 4))]) [3,4,5] (fun q=>[.own 3 3 1 (skC (stkI (nds l) q)),.own 4 9 1 (paC (pstI (nds l) q)),.own 5 3 1 (skC (idxs (fun i=>decide (aboveI (nds l) i=(k:Int))) q))]) (fun q=>l.length - q) 0 (by rfl) ⟨Nat.zero_le _,trivial⟩ ?_ ?_
 ·(refine Ent.of rfl rfl (by rfl) ?_;(try (first|exact trivial|((with_reducible refine AllP.go ?_);dsimp only [AllP,appP];repeat' (first|refine And.intro ?_ ?_|exact zz)))))
  all_goals first | exact LeDC.nil rfl rfl
 rintro q ⟨hq,hg⟩
 by_cases hlt:q<l.length
 ·have hxd:((nds l).getD q n0).depth=(l.getD q b0).nd.depth:=by rw [nds_getD]
  have hxnm:((nds l).getD q n0).name=(l.getD q b0).nd.name:=by rw [nds_getD]
  have hks:(skC (stkI (nds l) q)).n=(stkI (nds l) q).length:=rfl
  have hkp:(paC (pstI (nds l) q)).n=(pstI (nds l) q).length:=rfl
  obtain ⟨f1,f2,f3,f4,f5⟩:=walk_facts hT (q:=q) (by omega)
  rw [hxd] at f1 f2 f3
  have ht1:((stkI (nds l) q).take (l.getD q b0).nd.depth.toNat).length=(l.getD q b0).nd.depth.toNat:=by rw [List.length_take];omega
  have ht2:((pstI (nds l) q).take ((l.getD q b0).nd.depth - 1).toNat).length=((l.getD q b0).nd.depth - 1).toNat:=by rw [List.length_take];omega
  refine wa ?_
  refine TE.midG (ι:=Unit) (fun _=>True) (fun _=>[(3,.o (.own 3)),(4,.o (.own 4))]) [3,4] (fun _=>[.own 3 3 1 (skC ((stkI (nds l) q).take (l.getD q b0).nd.depth.toNat)),.own 4 9 1 (paC ((pstI (nds l) q).take ((l.getD q b0).nd.depth - 1).toNat))]) (by rfl) ?_ fun _ _=>?_
  ·(refine TE.drawK (fun i=>!(Nat.beq i 3 || Nat.beq i 4)) (by rfl) (by rfl) (by rfl) ?_)
   (repeat' (first|(with_reducible refine AllP.go ?_;(first|exact trivial|exact fun i _=>⟨_,rfl⟩|((try simp only [OS]);repeat' (first|omega|exact fun i _=>⟨_,rfl⟩|refine And.intro ?_ ?_))))|(with_reducible first|exact PanicOk.body|exact rd.panic|refine PanicOk.then' ?_|refine PanicOk.block ?_|refine PanicOk.jump ?_)|(refine TL.done (by rfl) ?_)|(refine TL.auto tysOk rfl ?_ (by rfl) ?_ ?_)|((refine TL.one (by rfl) ?_);first|(refine sm ?_ ?_)|(refine sp ?_ ?_)|(refine StepL.law rfl rfl rfl (fun _ h=>nomatch h) rfl (m_nilO rfl rfl) (by rfl) ?_;rintro _ rfl)|(refine StepL.law rfl rfl rfl (fun _ h=>nomatch h) rfl (m_cutOwn tysOk rfl (und_slice tysOk rfl) rfl rfl rfl rfl rfl ?_) (by rfl) ?_;rotate_left;rintro _ rfl;rotate_right;first|omega|skip))|(refine sm ?_ ?_)|(refine sp ?_ ?_)|(refine StepL.law rfl rfl rfl (fun _ h=>nomatch h) rfl (m_nilO rfl rfl) (by rfl) ?_;rintro _ rfl)|(refine StepL.law rfl rfl rfl (fun _ h=>nomatch h) rfl (m_cutOwn tysOk rfl (und_slice tysOk rfl) rfl rfl rfl rfl rfl ?_) (by rfl) ?_;rotate_left;rintro _ rfl;rotate_right;first|omega|skip)|((first|refine gl ?_ ?_|refine gc ?_ ?_)<;>intro h<;>(try simp only [NS] at h)<;>(try exact xf))|(refine TL.two (by rfl) ?_ ?_)|(refine TL.three (by rfl) ?_ ?_ ?_)|(refine TL.four (by rfl) ?_ ?_ ?_ ?_)))
   all_goals first | (simp only [Int.toNat_natCast];rw [hks];omega) | skip
   all_goals (repeat (with_reducible first|refine stp ?_|refine tD rfl ?_))
   all_goals (refine TE.at () trivial ?_;(refine Ent.of rfl rfl (by rfl) ?_;(try (first|exact trivial|((with_reducible refine AllP.go ?_);dsimp only [AllP,appP];repeat' (first|refine And.intro ?_ ?_|exact zz))))))
   all_goals first
    | exact head_take (by simp only [Int.toNat_natCast];rw [hks];omega) (by omega)
    | exact head_take (by simp only [Int.toNat_natCast];rw [hkp];omega) (by omega)
  (repeat (with_reducible first|refine stp ?_|refine tD rfl ?_))
  ((refine rg ?_ ?_);try (with_reducible refine AllP.go ?_;(first|exact trivial|exact fun i _=>⟨_,rfl⟩|((try simp only [OS]);repeat' (first|omega|exact fun i _=>⟨_,rfl⟩|refine And.intro ?_ ?_)))))
  refine TE.done (TE.thenN ?_)
  refine TE.seq ?_
  refine TE.midG (ι:=Unit) (fun _=>True) (fun _=>[(4,.o (.own 4)),(7,.o (.c (.int .i64 (aboveI (nds l) q))))]) [4] (fun _=>[.own 4 9 1 (paC (pstI (nds l) (q+1)))]) (by rfl) ?_ fun _ _=>?_
  ·rcases Nat.eq_zero_or_pos q with h0 | h0
   ·subst h0
    obtain ⟨r1,r2,r3⟩:=walk_root hT
    rw [hxd] at r1
    have ht3:((stkI (nds l) 0).take (l.getD 0 b0).nd.depth.toNat).length=0:=by rw [ht1,r1];rfl
    refine wa ?_
    (refine TE.at () trivial ?_;(refine Ent.of rfl rfl (by rfl) ?_;(try (first|exact trivial|((with_reducible refine AllP.go ?_);dsimp only [AllP,appP];repeat' (first|refine And.intro ?_ ?_|exact zz))))))
    rw [r3,List.take_nil,pstI_zero (by omega)]
    exact LeD.refl
   ·obtain ⟨k1,_,_,_,_,k6⟩:=walk_at hT (q:=q) (by omega) h0
    rw [hxd] at k1 k6
    have hix:(((skC ((stkI (nds l) q).take (l.getD q b0).nd.depth.toNat)).n:Int) - 1).toNat=((l.getD q b0).nd.depth - 1).toNat:=by
     show ((((stkI (nds l) q).take (l.getD q b0).nd.depth.toNat).length:Int) - 1).toNat=_
     rw [ht1]
     omega
    have hps:=pstI_succ (l:=nds l) (q:=q) (by omega) h0
    rw [hxd,hxnm] at hps
    refine wa ?_
    (refine TE.at () trivial ?_;(refine Ent.of rfl rfl (by rfl) ?_;(try (first|exact trivial|((with_reducible refine AllP.go ?_);dsimp only [AllP,appP];repeat' (first|refine And.intro ?_ ?_|exact zz))))))
    ·refine congrArg (Value.int _) ?_
     rw [hix,k6,getD_take (by omega)]
    ·exact listC_snoc _ hps (nth1 rfl)
  (refine TE.only [10,9,8,7,6,5,4,3,1,0] (by rfl) ?_)
  have hpl:(pstI (nds l) (q+1)).length≤1000000:=by rw [pstI_path hT (by omega)];have:=(pcheck_iff.1 (path_ok hT q (by omega))).1;omega
  refine wa ?_
  refine cw (cloneO_c (pstI (nds l) (q+1)) hpl) ?_
  intro _ _
  ((refine rn ?_ ?_);try (with_reducible refine AllP.go ?_;(first|exact trivial|exact fun i _=>⟨_,rfl⟩|((try simp only [OS]);repeat' (first|omega|exact fun i _=>⟨_,rfl⟩|refine And.intro ?_ ?_)))))
  (refine TE.freezeN 9 (by rfl) (by rfl) ?_)
  (refine TE.only [54,50,49,10,9,8,4,3,1,0] (by rfl) ?_)
  (refine TE.yield L rfl (by rfl) (by rfl) rfl rfl (by rfl) (by rfl) (by rfl) rfl (by rfl) ?_)
  intro Qr w1 B1 S1 ν1 rd
  (repeat (first|(with_reducible refine AllP.go ?_;(first|exact trivial|exact fun i _=>⟨_,rfl⟩|((try simp only [OS]);repeat' (first|omega|exact fun i _=>⟨_,rfl⟩|refine And.intro ?_ ?_))))|(refine rg ?_ ?_)|(with_reducible first|refine stp ?_|refine tD rfl ?_)|(with_reducible first|exact PanicOk.body|exact rd.panic|refine PanicOk.then' ?_|refine PanicOk.block ?_|refine PanicOk.jump ?_)|(refine dc ?_)|(refine dn ?_)|(refine TL.done (by rfl) ?_)|(refine TL.auto tysOk rfl ?_ (by rfl) ?_ ?_)|((refine TL.one (by rfl) ?_);first|(refine sm ?_ ?_)|(refine sp ?_ ?_))|(refine sm ?_ ?_)|refine ct ?_|refine cf ?_))
  refine rd.begin ?_
  clear rd
  intro w1 B1 S1 ν1 rd
  have hpp:pstI (nds l) (q+1)=pathI (nds l) q:=pstI_path hT (by omega)
  have hst:=stkI_succ (l:=nds l) (q:=q) (by omega)
  rw [hxd] at hst
  have hs:=idxs_succ (fun i=>decide (aboveI (nds l) i=(k:Int))) q
  have hn:=idxs_len (fun i=>decide (aboveI (nds l) i=(k:Int))) q
  have hcn:(skC (idxs (fun i=>decide (aboveI (nds l) i=(k:Int))) q)).n≤q:=hn
  by_cases ha:aboveI (nds l) q=k
  ·rw [if_pos (decide_eq_true ha)] at hs
   refine wa ?_
   refine rd.normal ?_
   refine wb ?_
   refine TE.again' (q+1) ⟨by omega,trivial⟩ (by omega) ?_
   (refine Ent.of rfl rfl (by rfl) ?_;(try (first|exact trivial|((with_reducible refine AllP.go ?_);dsimp only [AllP,appP];repeat' (first|refine And.intro ?_ ?_|exact zz)))))
   all_goals first | exact listC_snoc _ hst (nth1 rfl) | exact listC_snoc _ hs (nth1 rfl)
  ·rw [if_neg (by simpa using ha)] at hs
   rw [← hs]
   refine wa ?_
   refine rd.normal ?_
   refine wb ?_
   refine TE.again' (q+1) ⟨by omega,trivial⟩ (by omega) ?_
   (refine Ent.of rfl rfl (by rfl) ?_;(try (first|exact trivial|((with_reducible refine AllP.go ?_);dsimp only [AllP,appP];repeat' (first|refine And.intro ?_ ?_|exact zz)))))
   all_goals first | exact listC_snoc _ hst (nth1 rfl) | exact listC_snoc _ hs (nth1 rfl)
 ·obtain rfl:q=l.length:=by omega
  refine wa ?_
  refine TE.iterEnd L (by first | exact .inl rfl | exact .inr rfl) (by rfl) ?_
  refine wa ?_
  (refine TE.freezeN 5 (by rfl) (by rfl) ?_)
  exact po
end Go.Proofs.YtalmoocpebhoiaaGreatDoor.Am
namespace Go.Proofs.YtalmoocpebhoiaaGreatDoor.Am
open Go.RowKit Lw
open Br Wo
theorem bPrint_c (m:Int) (te:TypeId) (pe:Value) (l:List Bn) (hl:l.length≤1000000) (hx:∀ x∈l,okB x):Con Tryz.prog 7 [.o (.ro 10 l.length (bnC l).cell)] (glT m te pe) 5 5 U (fun _=>.t [.inl (.c (.string (sB (printB l).1))),.inl (.c (.int .i64 (printB l).2))]) (fun _=>glT m te pe):=by
 refine con_of Tryz.func7 rfl (by kernel_rfl) Tryz.ntmps7 rfl (by first | exact Nat.zero_le _ | decide) (fun _=>⟨rfl,rfl⟩) fun w S ν=>?_
 have hti:(nds l).length=l.length:=List.length_map ..
 have hrc:=checkB_c l hl hx
 have hrt:=tree_c l hl fun x h=>(hx x h).1.1
 have hpr:=tPrint_c m te pe (nds l) (by omega) (okn_nds hx)
 refine wa ?_
 refine cw (hrc) ?_
 intro _ _
 by_cases h1:(checkB l).2≠0
 ·rw [show printB l=([],(checkB l).2) from if_pos h1]
  refine wb ?_
  exact po
 have hE:printB l=(textT (nds l) l.length++markT l l.length,0):=if_neg h1
 have h1:=Decidable.not_not.1 h1
 have hB:Bok l:=h1
 have hT:Tok (nds l):=bok_tok hB
 have hP:printT (nds l)=(textT (nds l) l.length,0):=(if_neg (fun k=>k hT)).trans (by rw [hti])
 rw [hP] at hpr
 rw [hE]
 refine wb ?_
 refine cw (hrt) ?_
 intro _ _
 refine wb ?_
 refine cw (hpr) ?_
 intro _ _
 refine wb ?_
 refine cw (walk_c l) ?_
 intro _ _
 refine wb ?_
 (refine TE.range rfl (by rfl) (by rfl) (by kernel_rfl) (by rfl) (by rfl) rfl ?_)
 intro l' a1 w0 B0 S0 ν0 L
 (repeat (first|(with_reducible refine AllP.go ?_;(first|exact trivial|exact fun i _=>⟨_,rfl⟩|((try simp only [OS]);repeat' (first|omega|exact fun i _=>⟨_,rfl⟩|refine And.intro ?_ ?_))))|(refine rg ?_ ?_)|(with_reducible first|refine stp ?_|refine tD rfl ?_)|(with_reducible first|exact PanicOk.body|exact rd.panic|refine PanicOk.then' ?_|refine PanicOk.block ?_|refine PanicOk.jump ?_)|(refine dc ?_)|(refine dn ?_)|(refine TL.done (by rfl) ?_)|(refine TL.auto tysOk rfl ?_ (by rfl) ?_ ?_)|((refine TL.one (by rfl) ?_);first|(refine sm ?_ ?_)|(refine sp ?_ ?_))|(refine sm ?_ ?_)|refine ct ?_|refine cf ?_))
 refine TE.nilOwn 3 3 1 (by rfl) ?_
 refine TE.nilOwn 4 9 1 (by rfl) ?_
 refine TE.loopG (fun q:Nat=>q≤l.length∧True) (fun q=>[(10,.o (.c (.int .i64 q))),(3,.o (.own 8)),(4,.o (.own 9))]) [8,9,6] (fun q=>[.own 8 3 1 (skC (stkI (nds l) q)),.own 9 9 1 (paC (pstI (nds l) q)),.box 6 9 [.c (.string (sB (textT (nds l) l.length++markT l q)))]]) (fun q=>l.length - q) 0 (by rfl) ⟨Nat.zero_le _,trivial⟩ ?_ ?_
 ·(refine Ent.of rfl rfl (by rfl) ?_;(try (first|exact trivial|((with_reducible refine AllP.go ?_);dsimp only [AllP,appP];repeat' (first|refine And.intro ?_ ?_|exact zz)))))
  all_goals first | exact LeDC.nil rfl rfl | (rw [show markT l 0=[] from rfl,List.append_nil])
 rintro q ⟨hq,hg⟩
 by_cases hlt:q<l.length
 ·have hxd:((nds l).getD q n0).depth=(l.getD q b0).nd.depth:=by rw [nds_getD]
  have hxnm:((nds l).getD q n0).name=(l.getD q b0).nd.name:=by rw [nds_getD]
  have hks:(skC (stkI (nds l) q)).n=(stkI (nds l) q).length:=rfl
  have hkp:(paC (pstI (nds l) q)).n=(pstI (nds l) q).length:=rfl
  obtain ⟨f1,f2,f3,f4,f5⟩:=walk_facts hT (q:=q) (by omega)
  rw [hxd] at f1 f2 f3
  have ht1:((stkI (nds l) q).take (l.getD q b0).nd.depth.toNat).length=(l.getD q b0).nd.depth.toNat:=by rw [List.length_take];omega
  have ht2:((pstI (nds l) q).take ((l.getD q b0).nd.depth - 1).toNat).length=((l.getD q b0).nd.depth - 1).toNat:=by rw [List.length_take];omega
  refine wa ?_
  refine TE.midG (ι:=Unit) (fun _=>True) (fun _=>[(3,.o (.own 8)),(4,.o (.own 9))]) [8,9] (fun _=>[.own 8 3 1 (skC ((stkI (nds l) q).take (l.getD q b0).nd.depth.toNat)),.own 9 9 1 (paC ((pstI (nds l) q).take ((l.getD q b0).nd.depth - 1).toNat))]) (by rfl) ?_ fun _ _=>?_
  ·(refine TE.drawK (fun i=>!(Nat.beq i 8 || Nat.beq i 9)) (by rfl) (by rfl) (by rfl) ?_)
   (repeat' (first|(with_reducible refine AllP.go ?_;(first|exact trivial|exact fun i _=>⟨_,rfl⟩|((try simp only [OS]);repeat' (first|omega|exact fun i _=>⟨_,rfl⟩|refine And.intro ?_ ?_))))|(with_reducible first|exact PanicOk.body|exact rd.panic|refine PanicOk.then' ?_|refine PanicOk.block ?_|refine PanicOk.jump ?_)|(refine TL.done (by rfl) ?_)|(refine TL.auto tysOk rfl ?_ (by rfl) ?_ ?_)|((refine TL.one (by rfl) ?_);first|(refine sm ?_ ?_)|(refine sp ?_ ?_)|(refine StepL.law rfl rfl rfl (fun _ h=>nomatch h) rfl (m_nilO rfl rfl) (by rfl) ?_;rintro _ rfl)|(refine StepL.law rfl rfl rfl (fun _ h=>nomatch h) rfl (m_cutOwn tysOk rfl (und_slice tysOk rfl) rfl rfl rfl rfl rfl ?_) (by rfl) ?_;rotate_left;rintro _ rfl;rotate_right;first|omega|skip))|(refine sm ?_ ?_)|(refine sp ?_ ?_)|(refine StepL.law rfl rfl rfl (fun _ h=>nomatch h) rfl (m_nilO rfl rfl) (by rfl) ?_;rintro _ rfl)|(refine StepL.law rfl rfl rfl (fun _ h=>nomatch h) rfl (m_cutOwn tysOk rfl (und_slice tysOk rfl) rfl rfl rfl rfl rfl ?_) (by rfl) ?_;rotate_left;rintro _ rfl;rotate_right;first|omega|skip)|((first|refine gl ?_ ?_|refine gc ?_ ?_)<;>intro h<;>(try simp only [NS] at h)<;>(try exact xf))|(refine TL.two (by rfl) ?_ ?_)|(refine TL.three (by rfl) ?_ ?_ ?_)|(refine TL.four (by rfl) ?_ ?_ ?_ ?_)))
   all_goals first | (simp only [Int.toNat_natCast];rw [hks];omega) | skip
   all_goals (repeat (with_reducible first|refine stp ?_|refine tD rfl ?_))
   all_goals (refine TE.at () trivial ?_;(refine Ent.of rfl rfl (by rfl) ?_;(try (first|exact trivial|((with_reducible refine AllP.go ?_);dsimp only [AllP,appP];repeat' (first|refine And.intro ?_ ?_|exact zz))))))
   all_goals first
    | exact head_take (by simp only [Int.toNat_natCast];rw [hks];omega) (by omega)
    | exact head_take (by simp only [Int.toNat_natCast];rw [hkp];omega) (by omega)
  (repeat (with_reducible first|refine stp ?_|refine tD rfl ?_))
  ((refine rg ?_ ?_);try (with_reducible refine AllP.go ?_;(first|exact trivial|exact fun i _=>⟨_,rfl⟩|((try simp only [OS]);repeat' (first|omega|exact fun i _=>⟨_,rfl⟩|refine And.intro ?_ ?_)))))
  refine TE.done (TE.thenN ?_)
  refine TE.seq ?_
  refine TE.midG (ι:=Unit) (fun _=>True) (fun _=>[(4,.o (.own 9)),(7,.o (.c (.int .i64 (aboveI (nds l) q))))]) [9] (fun _=>[.own 9 9 1 (paC (pstI (nds l) (q+1)))]) (by rfl) ?_ fun _ _=>?_
  ·rcases Nat.eq_zero_or_pos q with h0 | h0
   ·subst h0
    obtain ⟨r1,r2,r3⟩:=walk_root hT
    rw [hxd] at r1
    have ht3:((stkI (nds l) 0).take (l.getD 0 b0).nd.depth.toNat).length=0:=by rw [ht1,r1];rfl
    refine wa ?_
    (refine TE.at () trivial ?_;(refine Ent.of rfl rfl (by rfl) ?_;(try (first|exact trivial|((with_reducible refine AllP.go ?_);dsimp only [AllP,appP];repeat' (first|refine And.intro ?_ ?_|exact zz))))))
    rw [r3,List.take_nil,pstI_zero (by omega)]
    exact LeD.refl
   ·obtain ⟨k1,_,_,_,_,k6⟩:=walk_at hT (q:=q) (by omega) h0
    rw [hxd] at k1 k6
    have hix:(((skC ((stkI (nds l) q).take (l.getD q b0).nd.depth.toNat)).n:Int) - 1).toNat=((l.getD q b0).nd.depth - 1).toNat:=by
     show ((((stkI (nds l) q).take (l.getD q b0).nd.depth.toNat).length:Int) - 1).toNat=_
     rw [ht1]
     omega
    have hps:=pstI_succ (l:=nds l) (q:=q) (by omega) h0
    rw [hxd,hxnm] at hps
    refine wa ?_
    (refine TE.at () trivial ?_;(refine Ent.of rfl rfl (by rfl) ?_;(try (first|exact trivial|((with_reducible refine AllP.go ?_);dsimp only [AllP,appP];repeat' (first|refine And.intro ?_ ?_|exact zz))))))
    ·refine congrArg (Value.int _) ?_
     rw [hix,k6,getD_take (by omega)]
    ·exact listC_snoc _ hps (nth1 rfl)
  (refine TE.only [10,9,8,7,6,5,4,3,1,0] (by rfl) ?_)
  have hpl:(pstI (nds l) (q+1)).length≤1000000:=by rw [pstI_path hT (by omega)];have:=(pcheck_iff.1 (path_ok hT q (by omega))).1;omega
  refine wa ?_
  refine cw (cloneO_c (pstI (nds l) (q+1)) hpl) ?_
  intro _ _
  ((refine rn ?_ ?_);try (with_reducible refine AllP.go ?_;(first|exact trivial|exact fun i _=>⟨_,rfl⟩|((try simp only [OS]);repeat' (first|omega|exact fun i _=>⟨_,rfl⟩|refine And.intro ?_ ?_)))))
  (refine TE.freezeN 13 (by rfl) (by rfl) ?_)
  (refine TE.only [54,50,49,10,9,8,4,3,1,0] (by rfl) ?_)
  (refine TE.yield L rfl (by rfl) (by rfl) rfl rfl (by rfl) (by rfl) (by rfl) rfl (by rfl) ?_)
  intro Qr w1 B1 S1 ν1 rd
  (repeat (first|(with_reducible refine AllP.go ?_;(first|exact trivial|exact fun i _=>⟨_,rfl⟩|((try simp only [OS]);repeat' (first|omega|exact fun i _=>⟨_,rfl⟩|refine And.intro ?_ ?_))))|(refine rg ?_ ?_)|(with_reducible first|refine stp ?_|refine tD rfl ?_)|(with_reducible first|exact PanicOk.body|exact rd.panic|refine PanicOk.then' ?_|refine PanicOk.block ?_|refine PanicOk.jump ?_)|(refine dc ?_)|(refine dn ?_)|(refine TL.done (by rfl) ?_)|(refine TL.auto tysOk rfl ?_ (by rfl) ?_ ?_)|((refine TL.one (by rfl) ?_);first|(refine sm ?_ ?_)|(refine sp ?_ ?_))|(refine sm ?_ ?_)|refine ct ?_|refine cf ?_))
  refine rd.begin ?_
  clear rd
  intro w1 B1 S1 ν1 rd
  have hpp:pstI (nds l) (q+1)=pathI (nds l) q:=pstI_path hT (by omega)
  have hst:=stkI_succ (l:=nds l) (q:=q) (by omega)
  rw [hxd] at hst
  have hpq:pcheckE (pathI (nds l) q)=0:=path_ok hT q (by omega)
  have hpq2:=pcheck_iff.1 hpq
  have hmk:=(bok_iff.1 hB).2 q hlt
  have hpr2:=print_c (pstI (nds l) (q+1)) (fun s hs=>by rw [hpp] at hs;have:=(name_size (hpq2.2 s hs)).1;omega) hpl
  rw [show printE (pstI (nds l) (q+1))=(textS (pathI (nds l) q),0) by rw [hpp];exact if_neg (fun k=>k hpq)] at hpr2
  refine wa ?_
  refine cw (hpr2) ?_
  intro _ _
  ((refine rn ?_ ?_);try (with_reducible refine AllP.go ?_;(first|exact trivial|exact fun i _=>⟨_,rfl⟩|((try simp only [OS]);repeat' (first|omega|exact fun i _=>⟨_,rfl⟩|refine And.intro ?_ ?_)))))
  (repeat (with_reducible first|refine stp ?_|refine tD rfl ?_))
  ((refine rg ?_ ?_);try (with_reducible refine AllP.go ?_;(first|exact trivial|exact fun i _=>⟨_,rfl⟩|((try simp only [OS]);repeat' (first|omega|exact fun i _=>⟨_,rfl⟩|refine And.intro ?_ ?_)))))
  (simp only [Int.toNat_natCast])
  obtain ⟨ob,hob⟩:∃ ob,ob=(l.getD q b0).opq:=⟨_,rfl⟩
  rw [← hob]
  have hml:=mark_le hB q hq
  have hmr:=markR_le hB hlt
  have htl:=text_le hT l.length (by omega)
  have h120:=(tok_node hT).2.1
  have hz1:(sB (textT (nds l) l.length++markT l q)).size≤900000:=by rw [sB_size,List.length_append];omega
  have hs1:(⟨#[10]⟩:ByteArray).size=1:=rfl
  have hjo:=markF_join hT hlt hmk
  have hgo:=markF_good hT hlt hmk
  have hj:=Join_c m te pe (markF l q) (by omega)
  rw [hjo] at hj
  have hms:=markT_succ l q
  have hzl:(sB (lineI (markF l q))).size≤2000:=by rw [sB_size];have:=line_le (markF l q);omega
  have hz2:(sB (lineI (markF l q))++⟨#[10]⟩).size≤2001:=by rw [ByteArray.size_append];omega
  have hse0:markF l q≠[]→sB (textT (nds l) l.length++markT l q)++(sB (lineI (markF l q))++⟨#[10]⟩)=sB (textT (nds l) l.length++markT l (q+1)):=fun hne=>by
   rw [hms,show markR l q=lineI (markF l q)++[10] from if_neg hne,show (⟨#[10]⟩:ByteArray)=sB [10] from rfl,sB_app,sB_app,List.append_assoc]
  cases ob
  ·have hob:¬ (l.getD q b0).opq=true:=by rw [← hob];decide
   by_cases hre:(l.getD q b0).red=[]
   ·have hmf:markF l q=[]:=(if_neg hob).trans (if_neg (fun k=>k hre))
    have hr0:(l.getD q b0).red.length=0:=by rw [hre];rfl
    have hmr0:markT l (q+1)=markT l q:=by rw [hms,show markR l q=[] from if_pos hmf,List.append_nil]
    refine wa ?_
    refine rd.normal ?_
    refine wb ?_
    refine TE.again' (q+1) ⟨by omega,trivial⟩ (by omega) ?_
    rw [hmr0]
    (refine Ent.of rfl rfl (by rfl) ?_;(try (first|exact trivial|((with_reducible refine AllP.go ?_);dsimp only [AllP,appP];repeat' (first|refine And.intro ?_ ?_|exact zz)))))
    all_goals exact listC_snoc _ hst (nth1 rfl)
   ·have hmf:markF l q=[bf redW,qf (textL (pathI (nds l) q)),qf (textL (l.getD q b0).red)]:=(if_neg hob).trans (if_pos hre)
    have hr0:0<(l.getD q b0).red.length:=List.length_pos_iff.2 hre
    have hpr3:=((marks_zero hmk).2 hre).2.2.2
    have hpr4:=pcheck_iff.1 hpr3
    have hto:=print_c (l.getD q b0).red (fun s hs=>by have:=(name_size (hpr4.2 s hs)).1;omega) (by omega)
    rw [show printE (l.getD q b0).red=(textS (l.getD q b0).red,0) from if_neg (fun k=>k hpr3)] at hto
    have hse:=hse0 (by rw [hmf];simp)
    refine wa ?_
    refine cw (hto) ?_
    intro _ _
    refine wb ?_
    (refine TE.freezeN 15 (by rfl) (by rfl) ?_)
    have hj2:=hj
    rw [hmf] at hj2
    refine TE.callW (hj2) rfl (by rfl) (by rfl) rfl (by rfl) (by (first|exact trivial|((with_reducible refine AllP.go ?_);dsimp only [AllP,appP];repeat' (first|with_reducible rfl|with_reducible exact LeD.refl|refine And.intro ?_ ?_|exact vi|rfl|exact vb|exact trivial|(refine LeD.lit rfl ?_)|exact LeX.of_eq rfl|exact LeX.nil rfl|(refine LeX.lit rfl ?_)|refine nth1x ?_|refine nth2x ?_ ?_|refine nth3x ?_ ?_ ?_|refine nth4x ?_ ?_ ?_ ?_|exact LeD.refl)))) ?_
    intro _ _
    rw [← hmf]
    refine wb ?_
    refine rd.normal ?_
    refine wb ?_
    refine TE.again' (q+1) ⟨by omega,trivial⟩ (by omega) ?_
    rw [← hse]
    (refine Ent.of rfl rfl (by rfl) ?_;(try (first|exact trivial|((with_reducible refine AllP.go ?_);dsimp only [AllP,appP];repeat' (first|refine And.intro ?_ ?_|exact zz)))))
    all_goals exact listC_snoc _ hst (nth1 rfl)
  ·have hmf:markF l q=[bf opqW,qf (textL (pathI (nds l) q))]:=if_pos hob.symm
   have hse:=hse0 (by rw [hmf];simp)
   refine wa ?_
   (refine TE.freezeN 15 (by rfl) (by rfl) ?_)
   have hj2:=hj
   rw [hmf] at hj2
   refine TE.callW (hj2) rfl (by rfl) (by rfl) rfl (by rfl) (by (first|exact trivial|((with_reducible refine AllP.go ?_);dsimp only [AllP,appP];repeat' (first|with_reducible rfl|with_reducible exact LeD.refl|refine And.intro ?_ ?_|exact vi|rfl|exact vb|exact trivial|(refine LeD.lit rfl ?_)|exact LeX.of_eq rfl|exact LeX.nil rfl|(refine LeX.lit rfl ?_)|refine nth1x ?_|refine nth2x ?_ ?_|refine nth3x ?_ ?_ ?_|refine nth4x ?_ ?_ ?_ ?_|exact LeD.refl)))) ?_
   intro _ _
   rw [← hmf]
   refine wb ?_
   refine rd.normal ?_
   refine wb ?_
   refine TE.again' (q+1) ⟨by omega,trivial⟩ (by omega) ?_
   rw [← hse]
   (refine Ent.of rfl rfl (by rfl) ?_;(try (first|exact trivial|((with_reducible refine AllP.go ?_);dsimp only [AllP,appP];repeat' (first|refine And.intro ?_ ?_|exact zz)))))
   all_goals exact listC_snoc _ hst (nth1 rfl)
 ·obtain rfl:q=l.length:=by omega
  refine wa ?_
  refine TE.iterEnd L (by first | exact .inl rfl | exact .inr rfl) (by rfl) ?_
  refine wa ?_
  exact po
end Go.Proofs.YtalmoocpebhoiaaGreatDoor.Am
namespace Go.Proofs.YtalmoocpebhoiaaGreatDoor.Am
open Go.RowKit Lw Wo
theorem splitB_parts (c:UInt8) (l:Bs):((Lib.splitB (sB [c]) 0 (Lib.countB (sB l) (sB [c])) (sB l)).map (·.data.toList))=partsI c l:=by
 rw [Lib.splitB_data]
 exact split_parts c l
theorem split_c (m:Int) (te:TypeId) (pe:Value) (c:UInt8) (l:Bs) (hl:l.length≤100000000):Con Tryz.prog 75 [.o (.c (.string (sB l))),.o (.c (.string (sB [c])))] (glC m te pe) 4 4 U (fun _=>.o (.ro 1 (partsI c l).length (strsC (partsI c l)).cell)) (fun _=>glC m te pe):=by
 refine ⟨⟨Tryz.f75,Tryz.func75,by kernel_rfl,by kernel_rfl⟩,rfl,Nat.le_refl _,fun x=>⟨rfl,rfl⟩,fun w S ν vs hv ht hnd hbk hS=>?_⟩
 obtain rfl:=args2 hv
 refine Calls.mono (Tryz.strings_Split (sB l) (sB [c]) m w (by rw [sB_size];omega) (gl_max ht) (by show 1≤1;decide)) ?_
 rintro e w' ⟨rfl,rfl⟩
 obtain ⟨bs,hbs⟩:∃ bs,bs=Lib.splitB (sB [c]) 0 (Lib.countB (sB l) (sB [c])) (sB l):=⟨_,rfl⟩
 have hp:=splitB_parts c l
 rw [← hbs] at hp⊢
 have hlen:bs.length=(partsI c l).length:=by rw [← hp,List.length_map]
 have hcnt:Lib.countB (sB l) (sB [c])+1=(partsI c l).length:=by
  rw [← hlen,hbs]
  exact (Lib.splitB_all (sB [c]) (by show 1≤1;decide) 0 _ (sB l) rfl).symm
 have hpl:(partsI c l).length≤l.length+1:=parts_len c l []
 have e0:blks ν (glC m te pe)=[]:=allStat_blks (glC_all m te pe)
 have hsz:(w.alloc (.cells (bs.map Value.string).toArray 9)).heap.size=w.heap.size+1:=World.size_alloc _ _
 have gr:Gr w (w.alloc (.cells (bs.map Value.string).toArray 9)) S (fun b=>S b∨b=w.heap.size):=⟨by rw [hsz];omega,fun b _ hb=>Below.heap_alloc w _ b hb,fun b h=>.inl h⟩
 rw [hcnt]
 refine ⟨(),fun b=>S b∨b=w.heap.size,ν,_,rfl,trivial,?_,⟨rfl,rfl,rfl,by rw [hsz];omega,fun k hk _=>Below.heap_alloc w _ k hk⟩,fun _ _=>rfl,fun b h=>.inl h,fun b hb=>?_,stat_keep gr (glC_all m te pe) ht,?_,?_⟩
 ·refine ⟨_,_,rfl,Nat.le_refl _,?_,(fun h=>nomatch h),fun _=>⟨w.heap.size,0,rfl,.inr rfl,by rw [hsz];omega,fun i j hi hj=>?_⟩⟩
  ·unfold maxLen;omega
  ·obtain rfl:j=0:=by omega
   have hib:i<bs.length:=by omega
   refine ⟨.string bs[i],?_,?_,rfl⟩
   ·rw [Lib.cell_of_heap (World.alloc_heap_new w _)]
    simp [hib]
   ·show Value.string bs[i] = .string (sB ((partsI c l).getD i []))
    rw [← hp,List.getD_eq_getElem?_getD,List.getElem?_map,List.getElem?_eq_getElem hib]
    rfl
 ·rw [hsz]
  rcases hb with hb | rfl
  ·exact ⟨Nat.lt_succ_of_lt (hS b hb),.inl hb⟩
  ·exact ⟨Nat.lt_succ_self _,.inr (.inl (Nat.le_refl _))⟩
 ·show (blks ν (glC m te pe)).Nodup
  rw [e0];exact List.nodup_nil
 ·intro b hb
  have hb:b∈blks ν (glC m te pe):=hb
  rw [e0] at hb;exact nomatch hb
theorem last_ext {s:Bs} (h:s≠[]):(sB s).extract (s.length - 1) s.length=sB [s.getD (s.length - 1) 0]:=by
 have hp:0<s.length:=List.length_pos_iff.2 h
 rw [sB_ext,cut_drop (by omega),List.drop_of_length_le (by omega),show s.length - (s.length - 1)=1 by omega]
 rfl
theorem sfx_c (s:Bs) (hne:s≠[]) (hl:s.length≤100000000):Con Tryz.prog 109 [.o (.c (.string (sB s))),.o (.c (.string (sB [10])))] [] 0 0 U (fun _=>.o (.sb (decide (s.getD (s.length - 1) 0=10)))) G0:=by
 refine con_of Tryz.func109 rfl (by kernel_rfl) Tryz.ntmps109 rfl (by first | exact Nat.zero_le _ | decide) (fun _=>⟨rfl,rfl⟩) fun w S ν=>?_
 have hz:=sB_size s
 have hp:0<s.length:=List.length_pos_iff.2 hne
 have hz1:(sB [10]).size=1:=rfl
 refine wc ?_
 ·rw [show decide (s.getD (s.length - 1) 0=10)=decide ((sB s).extract (((sB s).size:Int) - ((sB [10]).size:Int)).toNat (((sB s).size:Int)).toNat=sB [10]) from decide_eq_decide.2 (by
   rw [hz1,hz,show ((s.length:Int) - ((1:Nat):Int)).toNat=s.length - 1 by omega,Int.toNat_natCast,last_ext hne,sB_inj]
   exact ⟨fun e=>by rw [e],fun e=>(List.cons.inj e).1⟩)]
  exact po
theorem sfxO_c (s:Bs) (h:s≠[]) (hl:s.length≤100000000):Con Tryz.prog 74 [.o (.c (.string (sB s))),.o (.c (.string (sB [10])))] [] 0 0 U (fun _=>.o (.sb (decide (s.getD (s.length - 1) 0=10)))) G0:=by
 refine con_of Tryz.func74 rfl (by kernel_rfl) Tryz.ntmps74 rfl (by first | exact Nat.zero_le _ | decide) (fun _=>⟨rfl,rfl⟩) fun w S ν=>?_
 refine wc ?_
 refine cw (sfx_c s h hl) ?_
 intro _ _
 refine wd ?_
 exact po
theorem Lines_c (m:Int) (te:TypeId) (pe:Value) (s:Bs) (hl:s.length≤100000000):Con Tryz.prog 33 [.o (.c (.string (sB s)))] (glC m te pe) 4 4 U (fun _=>.t [.inl (.ro 1 (linesI s).1.length (strsC (linesI s).1).cell),.inl (.c (.int .i64 (linesI s).2))]) (fun _=>glC m te pe):=by
 refine con_of Tryz.func33 rfl (by kernel_rfl) Tryz.ntmps33 rfl (by first | exact Nat.zero_le _ | decide) (fun _=>⟨rfl,rfl⟩) fun w S ν=>?_
 have hz:=sB_size s
 (repeat' (first|(with_reducible refine AllP.go ?_;(first|exact trivial|exact fun i _=>⟨_,rfl⟩|((try simp only [OS]);repeat' (first|omega|exact fun i _=>⟨_,rfl⟩|refine And.intro ?_ ?_))))|(refine rg ?_ ?_)|(with_reducible first|refine stp ?_|refine tD rfl ?_)|refine ct ?_|refine cf ?_|((refine TE.gsplit (by rfl) (by rfl) ?_ ?_<;>intro h<;>(try simp only [NS] at h)<;>(try exact xf))<;>(refine rn ?_ ?_))|((first|refine gl ?_ ?_|refine gc ?_ ?_)<;>intro h<;>(try simp only [NS] at h)<;>(try exact xf))))
 ·rw [show linesI s=([],3) from if_pos (by omega)]
  exact po
 ·have e:s=[]:=List.length_eq_zero_iff.1 (by omega)
  rw [show linesI s=([],0) by unfold linesI;rw [if_neg (by omega),if_pos e]]
  exact po
 have hne:s≠[]:=fun e=>by subst e;simp_all
 have hp:0<s.length:=List.length_pos_iff.2 hne
 have hsf:=sfxO_c s hne hl
 by_cases h10:s.getD (s.length - 1) 0=10
 rotate_left
 ·rw [decide_eq_false h10] at hsf
  refine cw (hsf) ?_
  intro _ _
  refine wb ?_
  rw [show linesI s=([],6) by unfold linesI;rw [if_neg (by omega),if_neg hne,if_pos h10]]
  exact po
 rw [decide_eq_true h10] at hsf
 have hi:linesI s=if 5000<(partsI 10 (s.take (s.length - 1))).length then ([],3) else (partsI 10 (s.take (s.length - 1)),0):=by
  unfold linesI
  rw [if_neg (by omega),if_neg hne,if_neg (fun k=>k h10)]
 have hex:(sB s).extract (Int.toNat 0) (((sB s).size:Int) - 1).toNat=sB (s.take (s.length - 1)):=by
  rw [sB_ext,hz,show ((s.length:Int) - 1).toNat=s.length - 1 by omega]
  rfl
 refine cw (hsf) ?_
 intro _ _
 refine wb ?_
 rw [hex]
 refine cw (split_c m te pe 10 (s.take (s.length - 1)) (by rw [List.length_take];omega)) ?_
 intro _ _
 ((refine rn ?_ ?_);(repeat' (first|(with_reducible refine AllP.go ?_;(first|exact trivial|exact fun i _=>⟨_,rfl⟩|((try simp only [OS]);repeat' (first|omega|exact fun i _=>⟨_,rfl⟩|refine And.intro ?_ ?_))))|(refine rg ?_ ?_)|(with_reducible first|refine stp ?_|refine tD rfl ?_)|refine ct ?_|refine cf ?_|((refine TE.gsplit (by rfl) (by rfl) ?_ ?_<;>intro h<;>(try simp only [NS] at h)<;>(try exact xf))<;>(refine rn ?_ ?_))|((first|refine gl ?_ ?_|refine gc ?_ ?_)<;>intro h<;>(try simp only [NS] at h)<;>(try exact xf)))))
 ·rw [hi,if_pos (by omega)]
  exact po
 ·rw [hi,if_neg (by omega)]
  exact po
end Go.Proofs.YtalmoocpebhoiaaGreatDoor.Am
namespace Go.Proofs.YtalmoocpebhoiaaGreatDoor.Am
open Go.RowKit Lw
open Br Wo
theorem strs_pa (L:List Bs) {n:Nat} (hn:n=(L.map sB).length):LeD 1 L.length (strsC L).cell n (paC (L.map sB)).cell:=
 ⟨by rw [hn,List.length_map],fun i j hi hj=>LeX.of_eq (by
  obtain rfl:j=0:=by omega
  show DC.c (.string (sB (L.getD i [])))=DC.c (.string ((L.map sB).getD i eS))
  rw [List.getD_eq_getElem?_getD,List.getD_eq_getElem?_getD,List.getElem?_map,List.getElem?_eq_getElem hi]
  rfl)⟩
theorem pparse_slash (r:Bs):pparseE (47 :: r)=if r=[] then ([],0) else if pcheckE ((partsI 47 r).map sB)≠0 then ([],pcheckE ((partsI 47 r).map sB)) else ((partsI 47 r).map sB,0):=by simp [pparseE]
theorem hpx_c (s:Bs) (hl:s.length≤100000000):Con Tryz.prog 157 [.o (.c (.string (sB s))),.o (.c (.string (sB [47])))] [] 0 0 U (fun _=>.o (.sb (decide (s.head? = some 47)))) G0:=by
 refine con_of Tryz.func157 rfl (by kernel_rfl) Tryz.ntmps157 rfl (by first | exact Nat.zero_le _ | decide) (fun _=>⟨rfl,rfl⟩) fun w S ν=>?_
 have hz:=sB_size s
 have hz1:(sB [47]).size=1:=rfl
 (repeat' (first|(with_reducible refine AllP.go ?_;(first|exact trivial|exact fun i _=>⟨_,rfl⟩|((try simp only [OS]);repeat' (first|omega|exact fun i _=>⟨_,rfl⟩|refine And.intro ?_ ?_))))|(refine rg ?_ ?_)|(with_reducible first|refine stp ?_|refine tD rfl ?_)|(with_reducible first|exact PanicOk.body|exact rd.panic|refine PanicOk.then' ?_|refine PanicOk.block ?_|refine PanicOk.jump ?_)|(refine dc ?_)|(refine dn ?_)|(refine TL.done (by rfl) ?_)|(refine TL.auto tysOk rfl ?_ (by rfl) ?_ ?_)|((refine TL.one (by rfl) ?_);first|(refine sm ?_ ?_)|(refine sp ?_ ?_))|(refine sm ?_ ?_)|refine ct ?_|refine cf ?_|((refine TE.gsplit (by rfl) (by rfl) ?_ ?_<;>intro h<;>(try simp only [NS] at h)<;>(try exact xf))<;>(refine rn ?_ ?_))|((first|refine gl ?_ ?_|refine gc ?_ ?_)<;>intro h<;>(try simp only [NS] at h)<;>(try exact xf))))
 ·have e:decide (s.head? = some 47)=decide ((sB s).extract (Int.toNat 0) ((((sB [47]).size:Nat):Int)).toNat=sB [47]):=decide_eq_decide.2 (by
   rw [hz1,sB_ext,sB_inj]
   cases s with
   | nil=>simp
   | cons c r=>simp)
  rw [e]
  exact po
 ·have e:s=[]:=List.length_eq_zero_iff.1 (by omega)
  rw [e]
  exact po
theorem cutp_c (s:Bs) (hl:s.length≤100000000):Con Tryz.prog 139 [.o (.c (.string (sB s))),.o (.c (.string (sB [47])))] [] 0 0 U (fun _=>.t [.inl (.c (.string (sB (if s.head? = some 47 then s.tail else s)))),.inl (.c (.bool (decide (s.head? = some 47))))]) G0:=by
 refine con_of Tryz.func139 rfl (by kernel_rfl) Tryz.ntmps139 rfl (by first | exact Nat.zero_le _ | decide) (fun _=>⟨rfl,rfl⟩) fun w S ν=>?_
 have hz:=sB_size s
 have hz1:(sB [47]).size=1:=rfl
 have hp:=hpx_c s hl
 refine wa ?_
 by_cases h:s.head? = some 47
 ·rw [decide_eq_true h] at hp⊢
  rw [if_pos h]
  have h1:1≤s.length:=by
   cases s with
   | nil=>cases h
   | cons c r=>simp
  refine cw (hp) ?_
  intro _ _
  refine wb ?_
  have e:(sB s).extract (((sB [47]).size:Nat):Int).toNat (((sB s).size:Nat):Int).toNat=sB s.tail:=by
   rw [hz1,hz,sB_ext]
   cases s with
   | nil=>cases h
   | cons c r=>simp
  rw [e]
  exact po
 ·rw [decide_eq_false h] at hp⊢
  rw [if_neg h]
  refine cw (hp) ?_
  intro _ _
  refine wb ?_
  exact po
theorem cutP_c (s:Bs) (hl:s.length≤100000000):Con Tryz.prog 115 [.o (.c (.string (sB s))),.o (.c (.string (sB [47])))] [] 0 0 U (fun _=>.t [.inl (.c (.string (sB (if s.head? = some 47 then s.tail else s)))),.inl (.c (.bool (decide (s.head? = some 47))))]) G0:=by
 refine con_of Tryz.func115 rfl (by kernel_rfl) Tryz.ntmps115 rfl (by first | exact Nat.zero_le _ | decide) (fun _=>⟨rfl,rfl⟩) fun w S ν=>?_
 refine wc ?_
 refine cw (cutp_c s hl) ?_
 intro _ _
 refine wd ?_
 exact po
theorem pParse_c (m:Int) (te:TypeId) (pe:Value) (s:Bs) (hl:s.length≤900000):Con Tryz.prog 80 [.o (.c (.string (sB s)))] (glC m te pe) 4 4 U (fun _=>.t [.inl (.ro 1 (pparseE s).1.length (paC (pparseE s).1).cell),.inl (.c (.int .i64 (pparseE s).2))]) (fun _=>glC m te pe):=by
 refine con_of Tryz.func80 rfl (by kernel_rfl) Tryz.ntmps80 rfl (by first | exact Nat.zero_le _ | decide) (fun _=>⟨rfl,rfl⟩) fun w S ν=>?_
 have hc:=cutP_c s (by omega)
 refine wa ?_
 by_cases h:s.head? = some 47
 rotate_left
 ·rw [decide_eq_false h] at hc
  refine cw (hc) ?_
  intro _ _
  have e:pparseE s=([],6):=by
   cases s with
   | nil=>rfl
   | cons c r=>exact if_pos (fun e=>h (by rw [e];rfl))
  rw [e]
  refine wb ?_
  exact po
 obtain ⟨r,rfl⟩:∃ r,s=47 :: r:=by
  cases s with
  | nil=>cases h
  | cons c r=>exact ⟨r,by injection h with h;rw [h]⟩
 rw [decide_eq_true h,if_pos h] at hc
 have hc:Con Tryz.prog 115 [.o (.c (.string (sB (47 :: r)))),.o (.c (.string (sB [47])))] [] 0 0 U (fun _=>.t [.inl (.c (.string (sB r))),.inl (.c (.bool true))]) G0:=hc
 have hrl:r.length≤900000:=by simp only [List.length_cons] at hl;omega
 have hE:pparseE (47 :: r)=if r=[] then ([],0) else if pcheckE ((partsI 47 r).map sB)≠0 then ([],pcheckE ((partsI 47 r).map sB)) else ((partsI 47 r).map sB,0):=pparse_slash r
 have hpl:(partsI 47 r).length≤r.length+1:=parts_len 47 r []
 have hps:=parts_size 47 r []
 have hchk:=pCheck_c ((partsI 47 r).map sB) (fun x hx=>by
  obtain ⟨y,hy,rfl⟩:=List.mem_map.1 hx
  have:=hps y hy
  have h2:=sB_size y
  simp only [List.length_nil] at this
  omega) (by rw [List.length_map];omega)
 refine cw (hc) ?_
 intro _ _
 have hrz:=sB_size r
 by_cases h0:r=[]
 ·subst h0
  rw [hE,if_pos rfl]
  refine wb ?_
  exact po
 rw [if_neg h0] at hE
 have h00:0<r.length:=List.length_pos_iff.2 h0
 refine wb ?_
 refine cw (split_c m te pe 47 r (by omega)) ?_
 intro _ _
 refine wb ?_
 refine TE.callW (hchk) rfl (by rfl) (by rfl) rfl (by rfl) ?_ ?_
 ·refine AllP.go ?_
  exact ⟨rfl,strs_pa _ rfl⟩
 intro _ _
 by_cases hpc:pcheckE ((partsI 47 r).map sB)≠0
 ·rw [hE,if_pos hpc]
  refine wb ?_
  exact po
 ·rw [hE,if_neg hpc]
  rw [Decidable.not_not.1 hpc]
  refine wb ?_
  (refine TE.ret' io rfl tysOk (()) ?_ rfl (by rfl) ?_;all_goals (try (first|exact trivial|((with_reducible refine AllP.go ?_);dsimp only [AllP,appP];repeat' (first|refine And.intro ?_ ?_|exact zz)))))
  exact strs_pa _ rfl
end Go.Proofs.YtalmoocpebhoiaaGreatDoor.Am
namespace Go.Proofs.YtalmoocpebhoiaaGreatDoor.Am
open Go.RowKit Lw
open Br
abbrev twoC (a b:Int):Ct:=litC [[.c (.int .i64 a)],[.c (.int .i64 b)]]
theorem or2_c (a b:Int):Con Tryz.prog 55 [.o (.own 0)] [.own 0 3 1 (twoC a b)] 1 1 U (fun _=>.o (.c (.int .i64 (if a≠0 then a else b)))) (fun _=>[.own 0 3 1 (twoC a b)]):=by
 refine con_of Tryz.func55 rfl (by kernel_rfl) Tryz.ntmps55 rfl (by first | exact Nat.zero_le _ | decide) (fun _=>⟨rfl,rfl⟩) fun w S ν=>?_
 have hn:(twoC a b).n=2:=rfl
 refine wa ?_
 refine TE.loopG (fun q:Nat=>q≤2∧(0<q→a=0)∧(1<q→b=0)) (fun q=>[(8,.o (.c (.int .i64 q)))]) [] (fun _=>[]) (fun q=>2 - q) 0 (by rfl) ⟨by omega,fun h=>absurd h (by omega),fun h=>absurd h (by omega)⟩ ?_ ?_
 ·exact ee
 rintro q ⟨hq,g1,g2⟩
 rcases (show q=0∨q=1∨q=2 by omega) with e | e | e
 ·subst e
  by_cases ha:a=0
  ·refine wa ?_
   refine TE.again' 1 ⟨by omega,fun _=>ha,fun h=>absurd h (by omega)⟩ (by omega) ?_
   exact ee
  ·rw [if_pos ha]
   refine wa ?_
   exact po
 ·subst e
  have ha:=g1 (by omega)
  rw [if_neg (by rw [ha];simp)]
  by_cases hb:b=0
  ·refine wa ?_
   refine TE.again' 2 ⟨by omega,fun _=>ha,fun _=>hb⟩ (by omega) ?_
   exact ee
  ·refine wa ?_
   exact po
 ·subst e
  have ha:=g1 (by omega)
  have hb:=g2 (by omega)
  rw [if_neg (by rw [ha];simp),hb]
  refine wa ?_
  exact po
def avs (l:List Bn) (q:Nat):List Int:=(List.range q).map (aboveI (nds l))
theorem avs_len (l:List Bn) (q:Nat):(avs l q).length=q:=by simp [avs]
theorem avs_succ (l:List Bn) (q:Nat):avs l (q+1)=avs l q++[aboveI (nds l) q]:=by simp [avs,List.range_succ]
theorem avs_get {l:List Bn} {q k:Nat} (h:k<q):(avs l q).getD k 0=aboveI (nds l) k:=by
 unfold avs
 rw [List.getD_eq_getElem?_getD,List.getElem?_map,List.getElem?_range h]
 rfl
theorem av_get {l:List Bn} {q k:Nat} (h:k<q):getM (ents cnDs 0 (avs l q)) (k:Int)=some (cnDs (aboveI (nds l) k)):=by
 rw [get_ents 0 _ _ _ (by omega) (by rw [avs_len];omega),Int.sub_zero,Int.toNat_natCast,avs_get h]
abbrev avB (l:List Bn):List Chunk:=[.box 0 80 [.own 1],.obj 1 (.mp false (ents cnDs 0 (avs l l.length)))]
theorem av_rng (l:List Bn) {k:Nat} (h:k<l.length) : -1≤aboveI (nds l) k∧aboveI (nds l) k≤l.length:=by
 have h1:=above_ge (d:=((nds l).getD k n0).depth) ((nds l).take k).reverse
 have h2:=above_lt (d:=((nds l).getD k n0).depth) ((nds l).take k).reverse
 rw [List.length_reverse,List.length_take] at h2
 have h3:(nds l).length=l.length:=List.length_map ..
 unfold aboveI
 omega
theorem dord_c (l:List Bn) (x y:Nat) (hx:x<l.length) (hy:y<l.length) (hl:l.length≤1000000):Con Tryz.prog 54 [.o (.c (.int .i64 x)),.o (.c (.int .i64 y)),.o (.ptr 0 0)] (avB l) 2 2 U (fun _=>.o (.c (.int .i64 (ordI (aboveI (nds l)) x y)))) (fun _=>avB l):=by
 refine con_of Tryz.func54 rfl (by kernel_rfl) Tryz.ntmps54 rfl (by first | exact Nat.zero_le _ | decide) (fun _=>⟨rfl,rfl⟩) fun w S ν=>?_
 have r1:=av_rng l hx
 have r2:=av_rng l hy
 have g1:=av_get (l:=l) hx
 have g2:=av_get (l:=l) hy
 refine wa ?_
 (refine TE.step rfl rfl rfl (fun _ h=>nomatch h) (m_mpGet (mpI false) rfl (Tryz.underlying80) (Tryz.underlying3) rfl rfl rfl (g1) rfl) ?_;rintro _ rfl)
 refine wb ?_
 (refine TE.step rfl rfl rfl (fun _ h=>nomatch h) (m_mpGet (mpI false) rfl (Tryz.underlying80) (Tryz.underlying3) rfl rfl rfl (g2) rfl) ?_;rintro _ rfl)
 refine wb ?_
 refine cw (or2_c (aboveI (nds l) x - aboveI (nds l) y) ((x:Int) - y)) ?_
 intro _ _
 refine wb ?_
 exact po
theorem min_c (l:List Bn) (ks:List Nat) (h0:0<ks.length) (hk:∀ k∈ks,k<l.length) (hl:l.length≤1000000) (hkl:ks.length≤1000000):Con Tryz.prog 53 [.o (.ro 1 ks.length (skC ks).cell),.o (.clo 54 [(0,0)])] (avB l) 2 2 U (fun _=>.o (.c (.int .i64 (minN (aboveI (nds l)) ks)))) (fun _=>avB l):=by
 refine con_of Tryz.func53 rfl (by kernel_rfl) Tryz.ntmps53 rfl (by first | exact Nat.zero_le _ | decide) (fun _=>⟨rfl,rfl⟩) fun w S ν=>?_
 obtain ⟨m,r,rfl⟩:=List.exists_cons_of_ne_nil (List.length_pos_iff.1 h0)
 have hrl:(m :: r).length=r.length+1:=rfl
 refine wa ?_
 refine TE.loopG (fun p:Nat=>p≤r.length) (fun p=>[(6,.o (.c (.int .i64 (p+1:Nat)))),(5,.o (.c (.int .i64 (minL (aboveI (nds l)) m (r.take p):Nat))))]) [] (fun _=>[]) (fun p=>r.length - p) 0 (by rfl) (Nat.zero_le _) ?_ ?_
 ·exact ee
 intro p hp
 have hmem:minL (aboveI (nds l)) m (r.take p)<l.length:=by
  rcases (minL_spec (aboveI (nds l)) (r.take p) m).1 with e | e
  ·rw [e];exact hk m (List.mem_cons_self ..)
  ·exact hk _ (List.mem_cons_of_mem _ (List.mem_of_mem_take e))
 by_cases hlt:p<r.length
 ·have hx:(m :: r).getD (((p+1:Nat):Int)).toNat 0=r.getD p 0:=by rw [Int.toNat_natCast];rfl
  have hxl:r.getD p 0<l.length:=hk _ (List.mem_cons_of_mem _ (getD_mem hlt))
  have hsn:minL (aboveI (nds l)) m (r.take (p+1))=if ordI (aboveI (nds l)) (r.getD p 0) (minL (aboveI (nds l)) m (r.take p))<0 then r.getD p 0 else minL (aboveI (nds l)) m (r.take p):=by
   rw [List.take_add_one,List.getD_eq_getElem?_getD,List.getElem?_eq_getElem hlt]
   exact minL_snoc _ _ _ _
  have hd:=dord_c l (r.getD p 0) (minL (aboveI (nds l)) m (r.take p)) hxl hmem hl
  refine wa ?_
  rw [hx]
  refine cw (hd) ?_
  intro _ _
  by_cases ho:ordI (aboveI (nds l)) (r.getD p 0) (minL (aboveI (nds l)) m (r.take p))<0
  ·rw [if_pos ho] at hsn
   refine wb ?_
   refine TE.again' (p+1) (by omega) (by omega) ?_
   rw [hsn]
   exact ee
  ·rw [if_neg ho] at hsn
   refine wb ?_
   refine TE.again' (p+1) (by omega) (by omega) ?_
   rw [hsn]
   exact ee
 ·obtain rfl:p=r.length:=by omega
  refine wa ?_
  (refine TE.ret' io rfl tysOk (()) ?_ rfl (by rfl) ?_;all_goals (try (first|exact trivial|((with_reducible refine AllP.go ?_);dsimp only [AllP,appP];repeat' (first|refine And.intro ?_ ?_|exact zz)))))
  rw [List.take_length]
  rfl
def enR (x:En) (j:Nat):DC:=match j with
 | 0=>.c (.string x.name)
 | 1=>.c (.int .i64 x.node.depth)
 | 2=>.c (.string x.node.name)
 | 3=>.c (.int .i64 x.node.kind)
 | 4=>.sl 2 x.node.attrs.length (atC x.node.attrs).cell
 | 5=>.c (.string x.node.data)
 | 6=>.c (.int .i64 x.node.major)
 | 7=>.c (.int .i64 x.node.minor)
 | 8=>.c (.int .i64 x.node.cls)
 | 9=>.c (.bool x.white)
 | 10=>.c (.bool x.first)
 | _=>.c (.int .i64 x.names)
abbrev enC (l:List En):Ct:=listC enR e0 l
abbrev diA (d:Di):List A1:=[.ro 2 d.attrs.length (atC d.attrs).cell,.c (.bool d.opq),.ro 1 d.red.length (paC d.red).cell,.ro 12 d.ents.length (enC d.ents).cell]
theorem ent_row {x:En} {r:List DC} (h0:LeX (nthD r 0) (enR x 0)) (h1:LeX (nthD r 1) (enR x 1)) (h2:LeX (nthD r 2) (enR x 2)) (h3:LeX (nthD r 3) (enR x 3)) (h4:LeX (nthD r 4) (enR x 4)) (h5:LeX (nthD r 5) (enR x 5)) (h6:LeX (nthD r 6) (enR x 6)) (h7:LeX (nthD r 7) (enR x 7)) (h8:LeX (nthD r 8) (enR x 8)) (h9:LeX (nthD r 9) (enR x 9)) (h10:LeX (nthD r 10) (enR x 10)) (h11:LeX (nthD r 11) (enR x 11)):∀ j,j<12→LeX (nthD r j) (enR x j)
 | 0,_=>h0
 | 1,_=>h1
 | 2,_=>h2
 | 3,_=>h3
 | 4,_=>h4
 | 5,_=>h5
 | 6,_=>h6
 | 7,_=>h7
 | 8,_=>h8
 | 9,_=>h9
 | 10,_=>h10
 | 11,_=>h11
 | j+12,h=>absurd h (by omega)
theorem Dir_c (l:List Bn) (n:Int) (hl:l.length≤1000000) (hx:∀ x∈l,okB x):Con Tryz.prog 18 [.o (.ro 10 l.length (bnC l).cell),.o (.c (.int .i64 n))] [] 0 0 U (fun _=>.t [.inr (diA (dirE l n).1),.inl (.c (.int .i64 (dirE l n).2))]) G0:=by
 refine con_of Tryz.func18 rfl (by kernel_rfl) Tryz.ntmps18 rfl (by first | exact Nat.zero_le _ | decide) (fun _=>⟨rfl,rfl⟩) fun w S ν=>?_
 have hti:(nds l).length=l.length:=List.length_map ..
 have hkd:=Kids_c l n hl hx
 refine wa ?_
 refine cw (hkd) ?_
 intro _ _
 by_cases h1:(kidsE l n).2≠0
 ·rw [show dirE l n=(di0,(kidsE l n).2) from if_pos h1]
  refine wb ?_
  exact po
 rw [show dirE l n=(dirI l n.toNat,0) from if_neg h1]
 have h1:=Decidable.not_not.1 h1
 have hkn:knownE l n=0:=Decidable.byContradiction fun k=>by
  unfold kidsE at h1
  rw [if_pos k] at h1
  exact k h1
 have hT:Tok (nds l):=bok_tok (known_bok hkn)
 obtain ⟨k,rfl,hk⟩:=known_at hkn
 have hkE:kidsE l (k:Int)=(kidsL l k,0):=by
  unfold kidsE at h1⊢
  rw [if_neg (fun h=>h hkn)] at h1⊢
  split at h1
  ·exact absurd h1 (by decide)
  ·rename_i c;rw [if_neg c]
 rw [Int.toNat_natCast,hkE]
 obtain ⟨x1,x2,x3⟩:=hx _ (getD_mem (d:=b0) hk)
 have hcs:=cloneS_c (l.getD k b0).red x2
 have hca:=Clone_c (l.getD k b0).nd.attrs.length (atC (l.getD k b0).nd.attrs).cell x1.1
 refine wb ?_
 (refine TE.only [6,4,1,0] (by rfl) ?_)
 (refine TE.mid (ι:=Unit) (fun _=>True) (fun _=>⟨[(8,.o (.ptr 1 0)),(6,.o (.ro 1 (kidsL l k).length (skC (kidsL l k)).cell)),(4,.o (.ptr 0 0)),(0,.o (.ro 10 l.length (bnC l).cell)),(1,.o (.c (.int .i64 k)))],[.box 1 48 [.ro 2 (l.getD k b0).nd.attrs.length (atC (l.getD k b0).nd.attrs).cell,.c (.bool (l.getD k b0).opq),.ro 1 (l.getD k b0).red.length (paC (l.getD k b0).red).cell,.c (.slice none 0 0)],.box 0 48 [.c (.slice none 0 0),.c (.bool false),.c (.slice none 0 0),.c (.slice none 0 0)]],2⟩) ?_ fun _ _=>?_)
 ·(refine TE.drawK (fun _=>false) (by rfl) (by rfl) (by rfl) ?_)
  (repeat' (first|(with_reducible refine AllP.go ?_;(first|exact trivial|exact fun i _=>⟨_,rfl⟩|((try simp only [OS]);repeat' (first|omega|exact fun i _=>⟨_,rfl⟩|refine And.intro ?_ ?_))))|(with_reducible first|exact PanicOk.body|exact rd.panic|refine PanicOk.then' ?_|refine PanicOk.block ?_|refine PanicOk.jump ?_)|(refine TL.done (by rfl) ?_)|(refine TL.auto tysOk rfl ?_ (by rfl) ?_ ?_)|(refine sm ?_ ?_)|(refine sp ?_ ?_)|(refine TL.one (by rfl) ?_)|(refine TL.two (by rfl) ?_ ?_)|(refine TL.three (by rfl) ?_ ?_ ?_)|(refine TL.four (by rfl) ?_ ?_ ?_ ?_)))
  all_goals (first|refine StepL.callW (hca) rfl rfl rfl rfl rfl (by rfl) (by (first|exact trivial|((with_reducible refine AllP.go ?_);dsimp only [AllP,appP];repeat' (first|refine And.intro ?_ ?_|exact zz|assumption)))) (by rfl) (by rfl) ?_|refine StepL.callW (hcs) rfl rfl rfl rfl rfl (by rfl) (by (first|exact trivial|((with_reducible refine AllP.go ?_);dsimp only [AllP,appP];repeat' (first|refine And.intro ?_ ?_|exact zz|assumption)))) (by rfl) (by rfl) ?_)
  all_goals intro _ _
  all_goals (repeat' (first|(with_reducible refine AllP.go ?_;(first|exact trivial|exact fun i _=>⟨_,rfl⟩|((try simp only [OS]);repeat' (first|omega|exact fun i _=>⟨_,rfl⟩|refine And.intro ?_ ?_))))|(with_reducible first|exact PanicOk.body|exact rd.panic|refine PanicOk.then' ?_|refine PanicOk.block ?_|refine PanicOk.jump ?_)|(refine TL.done (by rfl) ?_)|(refine TL.auto tysOk rfl ?_ (by rfl) ?_ ?_)|(refine sm ?_ ?_)|(refine sp ?_ ?_)|(refine TL.one (by rfl) ?_)|(refine TL.two (by rfl) ?_ ?_)|(refine TL.three (by rfl) ?_ ?_ ?_)|(refine TL.four (by rfl) ?_ ?_ ?_ ?_)))
  all_goals (first|refine StepL.callW (hca) rfl rfl rfl rfl rfl (by rfl) (by (first|exact trivial|((with_reducible refine AllP.go ?_);dsimp only [AllP,appP];repeat' (first|refine And.intro ?_ ?_|exact zz|assumption)))) (by rfl) (by rfl) ?_|refine StepL.callW (hcs) rfl rfl rfl rfl rfl (by rfl) (by (first|exact trivial|((with_reducible refine AllP.go ?_);dsimp only [AllP,appP];repeat' (first|refine And.intro ?_ ?_|exact zz|assumption)))) (by rfl) (by rfl) ?_)
  all_goals intro _ _
  all_goals refine wf ?_
  all_goals (repeat (with_reducible first|refine stp ?_|refine tD rfl ?_))
  all_goals (first | ((refine TE.freezeN 1 (by rfl) (by rfl) ?_);(refine TE.freezeN 2 (by rfl) (by rfl) ?_)) | ((refine TE.freezeN 1 (by rfl) (by rfl) ?_);(refine TE.freezeN 3 (by rfl) (by rfl) ?_)) | ((refine TE.freezeN 2 (by rfl) (by rfl) ?_);(refine TE.freezeN 3 (by rfl) (by rfl) ?_)))
  all_goals exact aa
 refine wa ?_
 (refine TE.step rfl rfl rfl (fun _ h=>nomatch h) (m_mkMp (.mp false []) (by first | exact .inl ⟨_,rfl⟩ | exact .inr ⟨_,rfl⟩) rfl) ?_;rintro _ rfl)
 refine wb ?_
 refine cw (walk_c l) ?_
 intro _ _
 refine wb ?_
 (refine TE.only [47,9,8,6,4,1,0] (by rfl) ?_)
 (refine TE.range rfl (by rfl) (by rfl) (by kernel_rfl) (by rfl) (by rfl) rfl ?_)
 intro l' a1 w0 B0 S0 ν0 L
 (repeat (first|(with_reducible refine AllP.go ?_;(first|exact trivial|exact fun i _=>⟨_,rfl⟩|((try simp only [OS]);repeat' (first|omega|exact fun i _=>⟨_,rfl⟩|refine And.intro ?_ ?_))))|(refine rg ?_ ?_)|(with_reducible first|refine stp ?_|refine tD rfl ?_)|(with_reducible first|exact PanicOk.body|exact rd.panic|refine PanicOk.then' ?_|refine PanicOk.block ?_|refine PanicOk.jump ?_)|(refine dc ?_)|(refine dn ?_)|(refine TL.done (by rfl) ?_)|(refine TL.auto tysOk rfl ?_ (by rfl) ?_ ?_)|((refine TL.one (by rfl) ?_);first|(refine sm ?_ ?_)|(refine sp ?_ ?_))|(refine sm ?_ ?_)|refine ct ?_|refine cf ?_))
 refine TE.nilOwn 3 3 1 (by rfl) ?_
 refine TE.nilOwn 4 9 1 (by rfl) ?_
 refine TE.loopG (fun q:Nat=>q≤l.length∧True) (fun q=>[(10,.o (.c (.int .i64 q))),(3,.o (.own 5)),(4,.o (.own 6))]) [5,6,2] (fun q=>[.own 5 3 1 (skC (stkI (nds l) q)),.own 6 9 1 (paC (pstI (nds l) q)),.obj 2 (.mp false (ents cnDs 0 (avs l q)))]) (fun q=>l.length - q) 0 (by rfl) ⟨Nat.zero_le _,trivial⟩ ?_ ?_
 ·(refine Ent.of rfl rfl (by rfl) ?_;(try (first|exact trivial|((with_reducible refine AllP.go ?_);dsimp only [AllP,appP];repeat' (first|refine And.intro ?_ ?_|exact zz)))))
  all_goals first | exact LeDC.nil rfl rfl
 rintro q ⟨hq,hg⟩
 by_cases hlt:q<l.length
 ·have hxd:((nds l).getD q n0).depth=(l.getD q b0).nd.depth:=by rw [nds_getD]
  have hxnm:((nds l).getD q n0).name=(l.getD q b0).nd.name:=by rw [nds_getD]
  have hks:(skC (stkI (nds l) q)).n=(stkI (nds l) q).length:=rfl
  have hkp:(paC (pstI (nds l) q)).n=(pstI (nds l) q).length:=rfl
  obtain ⟨f1,f2,f3,f4,f5⟩:=walk_facts hT (q:=q) (by omega)
  rw [hxd] at f1 f2 f3
  have ht1:((stkI (nds l) q).take (l.getD q b0).nd.depth.toNat).length=(l.getD q b0).nd.depth.toNat:=by rw [List.length_take];omega
  have ht2:((pstI (nds l) q).take ((l.getD q b0).nd.depth - 1).toNat).length=((l.getD q b0).nd.depth - 1).toNat:=by rw [List.length_take];omega
  refine wa ?_
  refine TE.midG (ι:=Unit) (fun _=>True) (fun _=>[(3,.o (.own 5)),(4,.o (.own 6))]) [5,6] (fun _=>[.own 5 3 1 (skC ((stkI (nds l) q).take (l.getD q b0).nd.depth.toNat)),.own 6 9 1 (paC ((pstI (nds l) q).take ((l.getD q b0).nd.depth - 1).toNat))]) (by rfl) ?_ fun _ _=>?_
  ·(refine TE.drawK (fun i=>!(Nat.beq i 5 || Nat.beq i 6)) (by rfl) (by rfl) (by rfl) ?_)
   (repeat' (first|(with_reducible refine AllP.go ?_;(first|exact trivial|exact fun i _=>⟨_,rfl⟩|((try simp only [OS]);repeat' (first|omega|exact fun i _=>⟨_,rfl⟩|refine And.intro ?_ ?_))))|(with_reducible first|exact PanicOk.body|exact rd.panic|refine PanicOk.then' ?_|refine PanicOk.block ?_|refine PanicOk.jump ?_)|(refine TL.done (by rfl) ?_)|(refine TL.auto tysOk rfl ?_ (by rfl) ?_ ?_)|((refine TL.one (by rfl) ?_);first|(refine sm ?_ ?_)|(refine sp ?_ ?_)|(refine StepL.law rfl rfl rfl (fun _ h=>nomatch h) rfl (m_nilO rfl rfl) (by rfl) ?_;rintro _ rfl)|(refine StepL.law rfl rfl rfl (fun _ h=>nomatch h) rfl (m_cutOwn tysOk rfl (und_slice tysOk rfl) rfl rfl rfl rfl rfl ?_) (by rfl) ?_;rotate_left;rintro _ rfl;rotate_right;first|omega|skip))|(refine sm ?_ ?_)|(refine sp ?_ ?_)|(refine StepL.law rfl rfl rfl (fun _ h=>nomatch h) rfl (m_nilO rfl rfl) (by rfl) ?_;rintro _ rfl)|(refine StepL.law rfl rfl rfl (fun _ h=>nomatch h) rfl (m_cutOwn tysOk rfl (und_slice tysOk rfl) rfl rfl rfl rfl rfl ?_) (by rfl) ?_;rotate_left;rintro _ rfl;rotate_right;first|omega|skip)|((first|refine gl ?_ ?_|refine gc ?_ ?_)<;>intro h<;>(try simp only [NS] at h)<;>(try exact xf))|(refine TL.two (by rfl) ?_ ?_)|(refine TL.three (by rfl) ?_ ?_ ?_)|(refine TL.four (by rfl) ?_ ?_ ?_ ?_)))
   all_goals first | (simp only [Int.toNat_natCast];rw [hks];omega) | skip
   all_goals (repeat (with_reducible first|refine stp ?_|refine tD rfl ?_))
   all_goals (refine TE.at () trivial ?_;(refine Ent.of rfl rfl (by rfl) ?_;(try (first|exact trivial|((with_reducible refine AllP.go ?_);dsimp only [AllP,appP];repeat' (first|refine And.intro ?_ ?_|exact zz))))))
   all_goals first
    | exact head_take (by simp only [Int.toNat_natCast];rw [hks];omega) (by omega)
    | exact head_take (by simp only [Int.toNat_natCast];rw [hkp];omega) (by omega)
  (repeat (with_reducible first|refine stp ?_|refine tD rfl ?_))
  ((refine rg ?_ ?_);try (with_reducible refine AllP.go ?_;(first|exact trivial|exact fun i _=>⟨_,rfl⟩|((try simp only [OS]);repeat' (first|omega|exact fun i _=>⟨_,rfl⟩|refine And.intro ?_ ?_)))))
  refine TE.done (TE.thenN ?_)
  refine TE.seq ?_
  refine TE.midG (ι:=Unit) (fun _=>True) (fun _=>[(4,.o (.own 6)),(7,.o (.c (.int .i64 (aboveI (nds l) q))))]) [6] (fun _=>[.own 6 9 1 (paC (pstI (nds l) (q+1)))]) (by rfl) ?_ fun _ _=>?_
  ·rcases Nat.eq_zero_or_pos q with h0 | h0
   ·subst h0
    obtain ⟨r1,r2,r3⟩:=walk_root hT
    rw [hxd] at r1
    have ht3:((stkI (nds l) 0).take (l.getD 0 b0).nd.depth.toNat).length=0:=by rw [ht1,r1];rfl
    refine wa ?_
    (refine TE.at () trivial ?_;(refine Ent.of rfl rfl (by rfl) ?_;(try (first|exact trivial|((with_reducible refine AllP.go ?_);dsimp only [AllP,appP];repeat' (first|refine And.intro ?_ ?_|exact zz))))))
    rw [r3,List.take_nil,pstI_zero (by omega)]
    exact LeD.refl
   ·obtain ⟨k1,_,_,_,_,k6⟩:=walk_at hT (q:=q) (by omega) h0
    rw [hxd] at k1 k6
    have hix:(((skC ((stkI (nds l) q).take (l.getD q b0).nd.depth.toNat)).n:Int) - 1).toNat=((l.getD q b0).nd.depth - 1).toNat:=by
     show ((((stkI (nds l) q).take (l.getD q b0).nd.depth.toNat).length:Int) - 1).toNat=_
     rw [ht1]
     omega
    have hps:=pstI_succ (l:=nds l) (q:=q) (by omega) h0
    rw [hxd,hxnm] at hps
    refine wa ?_
    (refine TE.at () trivial ?_;(refine Ent.of rfl rfl (by rfl) ?_;(try (first|exact trivial|((with_reducible refine AllP.go ?_);dsimp only [AllP,appP];repeat' (first|refine And.intro ?_ ?_|exact zz))))))
    ·refine congrArg (Value.int _) ?_
     rw [hix,k6,getD_take (by omega)]
    ·exact listC_snoc _ hps (nth1 rfl)
  (refine TE.only [10,9,8,7,6,5,4,3,1,0] (by rfl) ?_)
  have hpl:(pstI (nds l) (q+1)).length≤1000000:=by rw [pstI_path hT (by omega)];have:=(pcheck_iff.1 (path_ok hT q (by omega))).1;omega
  refine wa ?_
  refine cw (cloneO_c (pstI (nds l) (q+1)) hpl) ?_
  intro _ _
  ((refine rn ?_ ?_);try (with_reducible refine AllP.go ?_;(first|exact trivial|exact fun i _=>⟨_,rfl⟩|((try simp only [OS]);repeat' (first|omega|exact fun i _=>⟨_,rfl⟩|refine And.intro ?_ ?_)))))
  (refine TE.freezeN 10 (by rfl) (by rfl) ?_)
  (refine TE.only [54,50,49,10,9,8,4,3,1,0] (by rfl) ?_)
  (refine TE.yield L rfl (by rfl) (by rfl) rfl rfl (by rfl) (by rfl) (by rfl) rfl (by rfl) ?_)
  intro Qr w1 B1 S1 ν1 rd
  (repeat (first|(with_reducible refine AllP.go ?_;(first|exact trivial|exact fun i _=>⟨_,rfl⟩|((try simp only [OS]);repeat' (first|omega|exact fun i _=>⟨_,rfl⟩|refine And.intro ?_ ?_))))|(refine rg ?_ ?_)|(with_reducible first|refine stp ?_|refine tD rfl ?_)|(with_reducible first|exact PanicOk.body|exact rd.panic|refine PanicOk.then' ?_|refine PanicOk.block ?_|refine PanicOk.jump ?_)|(refine dc ?_)|(refine dn ?_)|(refine TL.done (by rfl) ?_)|(refine TL.auto tysOk rfl ?_ (by rfl) ?_ ?_)|((refine TL.one (by rfl) ?_);first|(refine sm ?_ ?_)|(refine sp ?_ ?_))|(refine sm ?_ ?_)|refine ct ?_|refine cf ?_))
  refine rd.begin ?_
  clear rd
  intro w1 B1 S1 ν1 rd
  have hpp:pstI (nds l) (q+1)=pathI (nds l) q:=pstI_path hT (by omega)
  have hst:=stkI_succ (l:=nds l) (q:=q) (by omega)
  rw [hxd] at hst
  have hpu:putM (ents cnDs 0 (avs l q)) (q:Int) (cnDs (aboveI (nds l) q))=ents cnDs 0 (avs l (q+1)):=by
   rw [avs_succ]
   exact put_new (f:=cnDs) (aboveI (nds l) q) _ _ _ (by rw [avs_len];omega)
  refine wa ?_
  (refine TE.step rfl rfl rfl (fun _ h=>nomatch h) (m_mpUp (mpI false) rfl rfl (Tryz.underlying80) (Tryz.underlying3) rfl rfl rfl rfl rfl) ?_;rintro _ rfl)
  refine wb ?_
  refine rd.normal ?_
  refine wb ?_
  refine TE.again' (q+1) ⟨by omega,trivial⟩ (by omega) ?_
  (refine Ent.of rfl rfl (by rfl) ?_;(try (first|exact trivial|((with_reducible refine AllP.go ?_);dsimp only [AllP,appP];repeat' (first|refine And.intro ?_ ?_|exact zz)))))
  all_goals first | exact listC_snoc _ hst (nth1 rfl) | exact congrArg (AO.mp false) hpu
 ·obtain rfl:q=l.length:=by omega
  refine wa ?_
  refine TE.iterEnd L (by first | exact .inl rfl | exact .inr rfl) (by rfl) ?_
  have hkl:(kidsL l k).length≤l.length:=idxs_len _ _
  refine wa ?_
  refine TE.nilBox 1 3 55 12 (by rfl) (by rfl) ?_
  (refine TE.only [56,55,54,9,8,4,1,0] (by rfl) ?_)
  refine TE.loopG (fun q:Nat=>q≤(kidsL l k).length) (fun q=>[(56,.o (.c (.int .i64 q)))]) [1,7,5] (fun q=>[.box 1 48 [.ro 2 (l.getD k b0).nd.attrs.length (atC (l.getD k b0).nd.attrs).cell,.c (.bool (l.getD k b0).opq),.ro 1 (l.getD k b0).red.length (paC (l.getD k b0).red).cell,.own 7],.own 7 55 12 (enC (((kidsL l k).take q).map (entI l k)))]) (fun q=>(kidsL l k).length - q) 0 (by rfl) (Nat.zero_le _) ?_ ?_
  ·(refine Ent.of rfl rfl (by rfl) ?_;(try (first|exact trivial|((with_reducible refine AllP.go ?_);dsimp only [AllP,appP];repeat' (first|refine And.intro ?_ ?_|exact zz)))))
   all_goals exact LeDC.nil rfl rfl
  intro q hq
  by_cases hlt:q<(kidsL l k).length
  ·obtain ⟨i,hi⟩:∃ i,i=(kidsL l k).getD q 0:=⟨_,rfl⟩
   obtain ⟨i1,i2⟩:=kid_iff.1 (show i∈kidsL l k by rw [hi];exact getD_mem hlt)
   have hnl:(namesL l i).length≤l.length:=idxs_len _ _
   have hnm:i∈namesL l i:=idxs_mem.2 ⟨i1,by unfold namesP;simp⟩
   have hnc:=names_c l i i1 hl
   have hmc:=min_c l (namesL l i) (List.length_pos_of_mem hnm) (fun k hk=>names_lt hk) hl (by omega)
   have hpc:=plain_c (l.getD i b0) (hx _ (getD_mem (d:=b0) i1)).1.1
   have hcn:(enC (((kidsL l k).take q).map (entI l k))).n=q:=by show (((kidsL l k).take q).map (entI l k)).length=q;rw [List.length_map,List.length_take];omega
   have hfm:=first_min (l:=l) (n:=(k:Int)) i1 i2
   refine wa ?_
   rw [show (kidsL l k).getD ((q:Nat):Int).toNat 0=i from hi.symm]
   refine cw (hnc) ?_
   intro _ _
   refine wb ?_
   refine cw (hmc) ?_
   intro _ _
   refine wb ?_
   (refine TE.only [56,55,54,15,14,13,9,8,4,1,0] (by rfl) ?_)
   refine TE.midG (ι:=Unit) (fun _=>True) (fun _=>[(16,.o (.ptr 5 0))]) [5] (fun _=>[.box 5 55 [.c (.string (l.getD i b0).nd.name),.c (.int .i64 (l.getD i b0).nd.depth),.c (.string (l.getD i b0).nd.name),.c (.int .i64 (l.getD i b0).nd.kind),.ro 2 (l.getD i b0).nd.attrs.length (atC (l.getD i b0).nd.attrs).cell,.c (.string (l.getD i b0).nd.data),.c (.int .i64 (l.getD i b0).nd.major),.c (.int .i64 (l.getD i b0).nd.minor),.c (.int .i64 (l.getD i b0).nd.cls),.sb (decide ((l.getD i b0).nd.kind=5)),.sb (firstP l k i),.c (.int .i64 ((namesL l i).length:Nat))]]) (by rfl) ?_ fun _ _=>?_
   ·(refine TE.drawK (fun _=>false) (by rfl) (by rfl) (by rfl) ?_)
    (repeat' (first|(with_reducible refine AllP.go ?_;(first|exact trivial|exact fun i _=>⟨_,rfl⟩|((try simp only [OS]);repeat' (first|omega|exact fun i _=>⟨_,rfl⟩|refine And.intro ?_ ?_))))|(with_reducible first|exact PanicOk.body|exact rd.panic|refine PanicOk.then' ?_|refine PanicOk.block ?_|refine PanicOk.jump ?_)|(refine TL.done (by rfl) ?_)|(refine TL.auto tysOk rfl ?_ (by rfl) ?_ ?_)|(refine sm ?_ ?_)|(refine sp ?_ ?_)|(refine TL.one (by rfl) ?_)|(refine TL.two (by rfl) ?_ ?_)|(refine TL.three (by rfl) ?_ ?_ ?_)|(refine TL.four (by rfl) ?_ ?_ ?_ ?_)))
    all_goals (refine StepL.callW (hpc) rfl rfl rfl rfl rfl (by rfl) (by (first|exact trivial|((with_reducible refine AllP.go ?_);dsimp only [AllP,appP];repeat' (first|refine And.intro ?_ ?_|exact zz|assumption)))) (by rfl) (by rfl) ?_;intro _ _;(repeat' (first|(with_reducible refine AllP.go ?_;(first|exact trivial|exact fun i _=>⟨_,rfl⟩|((try simp only [OS]);repeat' (first|omega|exact fun i _=>⟨_,rfl⟩|refine And.intro ?_ ?_))))|(with_reducible first|exact PanicOk.body|exact rd.panic|refine PanicOk.then' ?_|refine PanicOk.block ?_|refine PanicOk.jump ?_)|(refine TL.done (by rfl) ?_)|(refine TL.auto tysOk rfl ?_ (by rfl) ?_ ?_)|(refine sm ?_ ?_)|(refine sp ?_ ?_)|(refine TL.one (by rfl) ?_)|(refine TL.two (by rfl) ?_ ?_)|(refine TL.three (by rfl) ?_ ?_ ?_)|(refine TL.four (by rfl) ?_ ?_ ?_ ?_))))
    all_goals ((refine StepL.law rfl rfl rfl (fun _ h=>nomatch h) rfl (m_buildN tysOk rfl (by rfl) (by rfl) (by rfl) (by rfl)) (by rfl) ?_;rintro _ rfl);(repeat' (first|(with_reducible refine AllP.go ?_;(first|exact trivial|exact fun i _=>⟨_,rfl⟩|((try simp only [OS]);repeat' (first|omega|exact fun i _=>⟨_,rfl⟩|refine And.intro ?_ ?_))))|(with_reducible first|exact PanicOk.body|exact rd.panic|refine PanicOk.then' ?_|refine PanicOk.block ?_|refine PanicOk.jump ?_)|(refine TL.done (by rfl) ?_)|(refine TL.auto tysOk rfl ?_ (by rfl) ?_ ?_)|(refine sm ?_ ?_)|(refine sp ?_ ?_)|(refine TL.one (by rfl) ?_)|(refine TL.two (by rfl) ?_ ?_)|(refine TL.three (by rfl) ?_ ?_ ?_)|(refine TL.four (by rfl) ?_ ?_ ?_ ?_))))
    all_goals (repeat (with_reducible first|refine stp ?_|refine tD rfl ?_))
    all_goals (refine TE.at () trivial ?_;(refine Ent.of rfl rfl (by rfl) ?_;(try (first|exact trivial|((with_reducible refine AllP.go ?_);dsimp only [AllP,appP];repeat' (first|refine And.intro ?_ ?_|exact zz))))))
    all_goals exact (decide_eq_decide.2 (by omega)).trans hfm
   have htk:((kidsL l k).take q).length=q:=by rw [List.length_take];omega
   have hsn:((kidsL l k).take (q+1)).map (entI l k)=((kidsL l k).take q).map (entI l k)++[entI l k i]:=by rw [map_take (d:=0) hlt,← hi]
   by_cases hkd:(l.getD i b0).nd.kind=1
   ·have hen:(entI l k i).node={ n0 with kind:=1 }:=if_pos hkd
    refine wa ?_
    refine TE.again' (q+1) (by omega) (by omega) ?_
    (refine Ent.of rfl rfl (by rfl) ?_;(try (first|exact trivial|((with_reducible refine AllP.go ?_);dsimp only [AllP,appP];repeat' (first|refine And.intro ?_ ?_|exact zz)))))
    all_goals refine listC_snocX _ hsn (ent_row ?_ ?_ ?_ ?_ ?_ ?_ ?_ ?_ ?_ ?_ ?_ ?_)
    all_goals first | exact LeX.of_eq rfl | (refine LeX.of_eq ?_;simp only [enR,hen];rfl) | (simp only [enR,hen];exact LeX.nil rfl)
   ·have hen:(entI l k i).node={ (l.getD i b0).nd with depth:=0,name:=eS }:=if_neg hkd
    refine wa ?_
    refine TE.again' (q+1) (by omega) (by omega) ?_
    (refine Ent.of rfl rfl (by rfl) ?_;(try (first|exact trivial|((with_reducible refine AllP.go ?_);dsimp only [AllP,appP];repeat' (first|refine And.intro ?_ ?_|exact zz)))))
    all_goals refine listC_snocX _ hsn (ent_row ?_ ?_ ?_ ?_ ?_ ?_ ?_ ?_ ?_ ?_ ?_ ?_)
    all_goals first | exact LeX.of_eq rfl | (refine LeX.of_eq ?_;simp only [enR,hen];rfl) | (simp only [enR,hen];exact LeX.nil rfl)
  ·obtain rfl:q=(kidsL l k).length:=by omega
   refine wa ?_
   (refine TE.freezeN 7 (by rfl) (by rfl) ?_)
   (refine TE.ret' io rfl tysOk (()) ?_ rfl (by rfl) ?_;all_goals (try (first|exact trivial|((with_reducible refine AllP.go ?_);dsimp only [AllP,appP];repeat' (first|refine And.intro ?_ ?_|exact zz)))))
   rw [List.take_length]
   exact LeD.refl
abbrev nEx (d:Int) (nm:ByteArray) (k:Int) (dt:ByteArray) (c:Int):Nd:=⟨d,nm,k,[],dt,0,0,c⟩
def exL:List Bn:=[⟨nEx 0 eS 1 eS 0,false,[]⟩,⟨nEx 1 ⟨#[97]⟩ 1 eS 0,true,[]⟩,⟨nEx 2 ⟨#[120]⟩ 2 ⟨#[49,50]⟩ 1,false,[]⟩,⟨nEx 1 ⟨#[100]⟩ 1 eS 0,false,[⟨#[111,108,100]⟩,⟨#[100]⟩]⟩,⟨nEx 2 ⟨#[119]⟩ 5 eS 0,false,[]⟩,⟨nEx 2 ⟨#[121]⟩ 2 ⟨#[49,50]⟩ 1,false,[]⟩]
theorem ints_c (a b:List Nat) (ha:a.length≤1000000) (hb:b.length≤1000000):Con Tryz.prog 19 [.o (.ro 1 a.length (skC a).cell),.o (.ro 1 b.length (skC b).cell)] [] 0 0 U (fun _=>.o (.sb (decide (a=b)))) G0:=by
 refine con_of Tryz.func19 rfl (by kernel_rfl) Tryz.ntmps19 rfl (by first | exact Nat.zero_le _ | decide) (fun _=>⟨rfl,rfl⟩) fun w S ν=>?_
 refine wa ?_
 refine TE.loopG (fun q:Nat=>q≤a.length∧q≤b.length∧∀ j,j<q→a.getD j 0=b.getD j 0) (fun q=>[(5,.o (.c (.int .i64 q)))]) [] (fun _=>[]) (fun q=>a.length - q) 0 (by rfl) ⟨Nat.zero_le _,Nat.zero_le _,fun j hj=>absurd hj (Nat.not_lt_zero _)⟩ ?_ ?_
 ·exact ee
 rintro q ⟨hq,hq2,hg⟩
 by_cases h1:q<a.length∧q<b.length
 ·by_cases he:a.getD q 0=b.getD q 0
  ·refine wc ?_
   all_goals refine TE.again' (q+1) ⟨by omega,by omega,fun j hj=>?_⟩ (by omega) ?_
   all_goals first
    | (rcases Nat.lt_or_ge j q with h5 | h5
       ·exact hg j h5
       ·obtain rfl:j=q:=by omega
        exact he)
    | (refine Ent.of rfl rfl (by rfl) ?_;(try (first|exact trivial|((with_reducible refine AllP.go ?_);dsimp only [AllP,appP];repeat' (first|refine And.intro ?_ ?_|exact zz)))))
  ·have hne:a≠b:=fun e=>he (by rw [e])
   refine wc ?_
   all_goals (refine TE.ret' io rfl tysOk (()) ?_ rfl (by rfl) ?_;all_goals (try (first|exact trivial|((with_reducible refine AllP.go ?_);dsimp only [AllP,appP];repeat' (first|refine And.intro ?_ ?_|exact zz)))))
   all_goals exact congrArg Value.bool (decide_eq_false hne).symm
 ·have hfin:decide (a.length=b.length)=decide (a=b):=by
   refine decide_eq_decide.2 ⟨fun e=>?_,fun e=>by rw [e]⟩
   refine List.ext_getElem e fun k k1 k2=>?_
   have:=hg k (by omega)
   rwa [List.getD_eq_getElem?_getD,List.getD_eq_getElem?_getD,List.getElem?_eq_getElem k1,List.getElem?_eq_getElem k2] at this
  (repeat' (first|(with_reducible refine AllP.go ?_;(first|exact trivial|exact fun i _=>⟨_,rfl⟩|((try simp only [OS]);repeat' (first|omega|exact fun i _=>⟨_,rfl⟩|refine And.intro ?_ ?_))))|(refine rg ?_ ?_)|(with_reducible first|refine stp ?_|refine tD rfl ?_)|(with_reducible first|exact PanicOk.body|exact rd.panic|refine PanicOk.then' ?_|refine PanicOk.block ?_|refine PanicOk.jump ?_)|(refine dc ?_)|(refine dn ?_)|(refine TL.done (by rfl) ?_)|(refine TL.auto tysOk rfl ?_ (by rfl) ?_ ?_)|((refine TL.one (by rfl) ?_);first|(refine sm ?_ ?_)|(refine sp ?_ ?_))|(refine sm ?_ ?_)|refine ct ?_|refine cf ?_|((refine TE.gsplit (by rfl) (by rfl) ?_ ?_<;>intro h<;>(try simp only [NS] at h)<;>(try exact xf))<;>(refine rn ?_ ?_))|((first|refine gl ?_ ?_|refine gc ?_ ?_)<;>intro h<;>(try simp only [NS] at h)<;>(try exact xf))))
  all_goals (refine TE.ret' io rfl tysOk (()) ?_ rfl (by rfl) ?_;all_goals (try (first|exact trivial|((with_reducible refine AllP.go ?_);dsimp only [AllP,appP];repeat' (first|refine And.intro ?_ ?_|exact zz)))))
  all_goals exact (decide_eq_decide.2 (by omega)).trans hfin
theorem bn_row {x:Bn} {r:List DC} (h0:LeX (nthD r 0) (bnR x 0)) (h1:LeX (nthD r 1) (bnR x 1)) (h2:LeX (nthD r 2) (bnR x 2)) (h3:LeX (nthD r 3) (bnR x 3)) (h4:LeX (nthD r 4) (bnR x 4)) (h5:LeX (nthD r 5) (bnR x 5)) (h6:LeX (nthD r 6) (bnR x 6)) (h7:LeX (nthD r 7) (bnR x 7)) (h8:LeX (nthD r 8) (bnR x 8)) (h9:LeX (nthD r 9) (bnR x 9)):∀ j,j<10→LeX (nthD r j) (bnR x j)
 | 0,_=>h0
 | 1,_=>h1
 | 2,_=>h2
 | 3,_=>h3
 | 4,_=>h4
 | 5,_=>h5
 | 6,_=>h6
 | 7,_=>h7
 | 8,_=>h8
 | 9,_=>h9
 | j+10,h=>absurd h (by omega)
theorem example_c:Con Tryz.prog 13 [] [] 0 1 U (fun _=>.o (.own 0)) (fun _=>[.own 0 37 10 (bnC exL)]):=by
 refine con_of Tryz.func13 rfl (by kernel_rfl) Tryz.ntmps13 rfl (by first | exact Nat.zero_le _ | decide) (fun _=>⟨rfl,rfl⟩) fun w S ν=>?_
 refine wa ?_
 (refine TE.freezeN 0 (by rfl) (by rfl) ?_)
 refine wb ?_
 (refine TE.ret' io rfl tysOk (()) ?_ rfl (by rfl) ?_;all_goals (try (first|exact trivial|((with_reducible refine AllP.go ?_);dsimp only [AllP,appP];repeat' (first|refine And.intro ?_ ?_|exact zz)))))
 (refine LeD.lit rfl ?_;repeat' (first | exact trivial | exact LeX.of_eq rfl | exact LeX.nil rfl | (refine LeX.lit rfl ?_) | refine nth1x ?_ | refine nth2x ?_ ?_ | refine nth3x ?_ ?_ ?_ | refine nth4x ?_ ?_ ?_ ?_ | refine And.intro ?_ ?_))
 all_goals refine bn_row ?_ ?_ ?_ ?_ ?_ ?_ ?_ ?_ ?_ ?_
 all_goals first | exact LeX.of_eq rfl | exact LeX.nil rfl | skip
 all_goals (refine LeX.lit rfl ?_;repeat' (first | exact trivial | exact LeX.of_eq rfl | exact LeX.nil rfl | (refine LeX.lit rfl ?_) | refine nth1x ?_ | refine nth2x ?_ ?_ | refine nth3x ?_ ?_ ?_ | refine nth4x ?_ ?_ ?_ ?_ | refine And.intro ?_ ?_))
theorem ex_dirs:dirsE exL=([0,1,3],0):=by decide
theorem ex_kids:kidsE exL 3=([4,5],0):=by decide
theorem ex_names:namesE exL 2=([2,5],0):=by decide
theorem ex_at:atE exL [⟨#[100]⟩,⟨#[119]⟩]=(4,0):=by decide
theorem ex_dir:dirE exL 3=(⟨[],false,[⟨#[111,108,100]⟩,⟨#[100]⟩],[⟨⟨#[119]⟩,⟨0,eS,5,[],eS,0,0,0⟩,true,true,1⟩,⟨⟨#[121]⟩,⟨0,eS,2,[],⟨#[49,50]⟩,0,0,1⟩,false,false,2⟩]⟩,0):=by decide
def exA:List Bn:=exL.set 3 { exL.getD 3 b0 with red:=[⟨#[100]⟩] }
def exB:List Bn:=exL.set 1 { exL.getD 1 b0 with red:=[⟨#[113]⟩] }
theorem ex_a:checkB exA=(3,6):=by decide
theorem ex_b:checkB exB=(1,6):=by decide
theorem bok_small {l:List Bn} (h:l.all (fun x=>decide (x.nd.attrs.length=0∧x.nd.name.size≤1000∧x.red.length≤1000) && x.red.all (fun s=>decide (s.size≤1000)))=true):∀ x∈l,okB x:=fun x hx=>by
 have h1:=List.all_eq_true.1 h x hx
 rw [Bool.and_eq_true,decide_eq_true_eq,List.all_eq_true] at h1
 obtain ⟨⟨h2,h3,h4⟩,h5⟩:=h1
 have h6:x.nd.attrs=[]:=List.length_eq_zero_iff.1 h2
 refine ⟨⟨by omega,by rw [h6];decide,by omega⟩,by omega,fun s hs=>?_⟩
 have:=of_decide_eq_true (h5 s hs)
 omega
theorem ex_ok:∀ x∈exL,okB x:=bok_small (by decide)
theorem exA_ok:∀ x∈exA,okB x:=bok_small (by decide)
theorem exB_ok:∀ x∈exB,okB x:=bok_small (by decide)
theorem bn_setR {l:List Bn} {i:Nat} {d:DC} {r:List ByteArray} (hi:i<l.length) (h:LeX d (bnR { l.getD i b0 with red:=r } 9)):LeDC 10 (setC (bnC l) i 9 d) (bnC (l.set i { l.getD i b0 with red:=r })):=by
 refine ⟨(List.length_set ..).symm,fun a j ha hj=>?_⟩
 show LeX (if a=i∧j=9 then d else bnR (l.getD a b0) j) (bnR ((l.set i { l.getD i b0 with red:=r }).getD a b0) j)
 rw [getD_set hi]
 by_cases e:a=i
 ·subst e
  rw [if_pos rfl]
  by_cases e2:j=9
  ·subst e2
   rw [if_pos ⟨rfl,rfl⟩]
   exact h
  ·rw [if_neg (fun k=>e2 k.2)]
   refine LeX.of_eq ?_
   match j,hj,e2 with
   | 0,_,_=>rfl
   | 1,_,_=>rfl
   | 2,_,_=>rfl
   | 3,_,_=>rfl
   | 4,_,_=>rfl
   | 5,_,_=>rfl
   | 6,_,_=>rfl
   | 7,_,_=>rfl
   | 8,_,_=>rfl
   | 9,_,h=>exact absurd rfl h
   | j+10,h,_=>omega
 ·rw [if_neg (fun k=>e k.1),if_neg e]
  exact LeX.of_eq rfl
set_option maxHeartbeats 16000000 in
theorem shown_c:Con Tryz.prog 6 [] [] 0 0 U (fun _=>.o (.c (.bool true))) G0:=by
 refine con_of0 Tryz.func6 rfl (by kernel_rfl) Tryz.ntmps6 rfl (by first | exact Nat.zero_le _ | decide) (fun _=>⟨rfl,rfl⟩) fun w S ν=>?_
 have hl:exL.length≤1000000:=by decide
 have c1:=dirs_c exL hl ex_ok
 have c2:=Kids_c exL 3 hl ex_ok
 have c3:=Names_c exL 2 hl ex_ok
 have c4:=at_c exL [⟨#[100]⟩,⟨#[119]⟩] hl ex_ok ⟨by decide,by decide⟩
 have c5:=Dir_c exL 3 hl ex_ok
 rw [ex_dirs] at c1
 rw [ex_kids] at c2
 rw [ex_names] at c3
 rw [ex_at] at c4
 rw [ex_dir] at c5
 have i1:=ints_c [0,1,3] [0,1,3] (by decide) (by decide)
 have i2:=ints_c [4,5] [4,5] (by decide) (by decide)
 have i3:=ints_c [2,5] [2,5] (by decide) (by decide)
 rw [decide_eq_true rfl] at i1 i2 i3
 refine wa ?_
 refine cw (example_c) ?_
 intro _ _
 refine wb ?_
 refine TE.lend 1 0 rfl (by rfl) (by rfl) (by decide) (by rfl) ?_
 intro w0 B0 S0 ν0 v S1 g L
 refine cw (c1) ?_
 intro _ _
 refine wb ?_
 refine cw (c2) ?_
 intro _ _
 refine wb ?_
 refine cw (c3) ?_
 intro _ _
 refine wb ?_
 (refine TE.freezeN 1 (by rfl) (by rfl) ?_)
 refine TE.callW (c4) rfl (by rfl) (by rfl) rfl (by rfl) (by (first|exact trivial|((with_reducible refine AllP.go ?_);dsimp only [AllP,appP];repeat' (first|with_reducible rfl|with_reducible exact LeD.refl|refine And.intro ?_ ?_|exact vi|rfl|exact vb|exact trivial|(refine LeD.lit rfl ?_)|exact LeX.of_eq rfl|exact LeX.nil rfl|(refine LeX.lit rfl ?_)|refine nth1x ?_|refine nth2x ?_ ?_|refine nth3x ?_ ?_ ?_|refine nth4x ?_ ?_ ?_ ?_|exact LeD.refl)))) ?_
 intro _ _
 refine wb ?_
 refine cw (c5) ?_
 intro _ _
 refine wb ?_
 (refine TE.freezeN 3 (by rfl) (by rfl) ?_)
 refine TE.callW (i1) rfl (by rfl) (by rfl) rfl (by rfl) (by (first|exact trivial|((with_reducible refine AllP.go ?_);dsimp only [AllP,appP];repeat' (first|with_reducible rfl|with_reducible exact LeD.refl|refine And.intro ?_ ?_|exact vi|rfl|exact vb|exact trivial|(refine LeD.lit rfl ?_)|exact LeX.of_eq rfl|exact LeX.nil rfl|(refine LeX.lit rfl ?_)|refine nth1x ?_|refine nth2x ?_ ?_|refine nth3x ?_ ?_ ?_|refine nth4x ?_ ?_ ?_ ?_|exact LeD.refl)))) ?_
 intro _ _
 refine wb ?_
 (refine TE.freezeN 4 (by rfl) (by rfl) ?_)
 refine TE.callW (i2) rfl (by rfl) (by rfl) rfl (by rfl) (by (first|exact trivial|((with_reducible refine AllP.go ?_);dsimp only [AllP,appP];repeat' (first|with_reducible rfl|with_reducible exact LeD.refl|refine And.intro ?_ ?_|exact vi|rfl|exact vb|exact trivial|(refine LeD.lit rfl ?_)|exact LeX.of_eq rfl|exact LeX.nil rfl|(refine LeX.lit rfl ?_)|refine nth1x ?_|refine nth2x ?_ ?_|refine nth3x ?_ ?_ ?_|refine nth4x ?_ ?_ ?_ ?_|exact LeD.refl)))) ?_
 intro _ _
 refine wb ?_
 (refine TE.freezeN 5 (by rfl) (by rfl) ?_)
 refine TE.callW (i3) rfl (by rfl) (by rfl) rfl (by rfl) (by (first|exact trivial|((with_reducible refine AllP.go ?_);dsimp only [AllP,appP];repeat' (first|with_reducible rfl|with_reducible exact LeD.refl|refine And.intro ?_ ?_|exact vi|rfl|exact vb|exact trivial|(refine LeD.lit rfl ?_)|exact LeX.of_eq rfl|exact LeX.nil rfl|(refine LeX.lit rfl ?_)|refine nth1x ?_|refine nth2x ?_ ?_|refine nth3x ?_ ?_ ?_|refine nth4x ?_ ?_ ?_ ?_|exact LeD.refl)))) ?_
 intro _ _
 ((refine rn ?_ ?_);repeat' (first|(with_reducible refine AllP.go ?_;(first|exact trivial|exact fun i _=>⟨_,rfl⟩|((try simp only [OS]);repeat' (first|omega|exact fun i _=>⟨_,rfl⟩|refine And.intro ?_ ?_))))|(with_reducible first|refine stp ?_|refine tD rfl ?_)|refine ct ?_|refine cf ?_|((refine TE.gsplit (by rfl) (by rfl) ?_ ?_<;>intro h<;>(try simp only [NS] at h)<;>(try exact xf))<;>(refine rn ?_ ?_))|((first|refine gl ?_ ?_|refine gc ?_ ?_)<;>intro h<;>(try simp only [NS] at h)<;>(try exact xf))))
 refine TE.thaw L 1 (by repeat (first | exact List.mem_cons_self .. | refine List.mem_cons_of_mem _ ?_)) (by rfl) ?_
 (refine TE.only [1,0] (by rfl) ?_)
 have hlen:exL.length=6:=rfl
 have c6:=checkB_c exA (by decide) exA_ok
 have c7:=checkB_c exB (by decide) exB_ok
 rw [ex_a] at c6
 rw [ex_b] at c7
 have hA:LeDC 10 (setC (bnC exL) (Int.toNat 3) 9 (.sl 1 (litC [[DC.c (.string ⟨#[100]⟩)]]).n (litC [[DC.c (.string ⟨#[100]⟩)]]).cell)) (bnC exA):=bn_setR (by decide) (by (refine LeX.lit rfl ?_;repeat' (first | exact trivial | exact LeX.of_eq rfl | exact LeX.nil rfl | (refine LeX.lit rfl ?_) | refine nth1x ?_ | refine nth2x ?_ ?_ | refine nth3x ?_ ?_ ?_ | refine nth4x ?_ ?_ ?_ ?_ | refine And.intro ?_ ?_)))
 have hB:LeDC 10 (setC (bnC exL) (Int.toNat 1) 9 (.sl 1 (litC [[DC.c (.string ⟨#[113]⟩)]]).n (litC [[DC.c (.string ⟨#[113]⟩)]]).cell)) (bnC exB):=bn_setR (by decide) (by (refine LeX.lit rfl ?_;repeat' (first | exact trivial | exact LeX.of_eq rfl | exact LeX.nil rfl | (refine LeX.lit rfl ?_) | refine nth1x ?_ | refine nth2x ?_ ?_ | refine nth3x ?_ ?_ ?_ | refine nth4x ?_ ?_ ?_ ?_ | refine And.intro ?_ ?_)))
 refine wa ?_
 (refine TE.freezeN 7 (by rfl) (by rfl) ?_)
 refine wb ?_
 (refine TE.freezeN 6 (by rfl) (by rfl) ?_)
 refine TE.callW (c6) rfl (by rfl) (by rfl) rfl (by rfl) ?_ ?_
 ·refine AllP.go ?_
  refine And.intro rfl ?_
  exact hA
 intro _ _
 refine wb ?_
 refine cw (example_c) ?_
 intro _ _
 refine wb ?_
 (refine TE.freezeN 9 (by rfl) (by rfl) ?_)
 refine wb ?_
 (refine TE.freezeN 8 (by rfl) (by rfl) ?_)
 refine TE.callW (c7) rfl (by rfl) (by rfl) rfl (by rfl) ?_ ?_
 ·refine AllP.go ?_
  refine And.intro rfl ?_
  exact hB
 intro _ _
 refine wb ?_
 exact po
end Go.Proofs.YtalmoocpebhoiaaGreatDoor.Am
namespace Go.Proofs.YtalmoocpebhoiaaGreatDoor.Am
open Go.RowKit Lw
open Br Wo
theorem mark_c (m:Int) (te:TypeId) (pe:Value) (s:Bs) (hl:s.length≤900000):Con Tryz.prog 36 [.o (.c (.string (sB s)))] (glC m te pe) 4 4 U (fun _=>.t [.inl (.ro 2 (splitI s).1.length (fdC (splitI s).1).cell),.inl (.c (.bool (isMark s)))]) (fun _=>glC m te pe):=by
 refine con_of Tryz.func36 rfl (by kernel_rfl) Tryz.ntmps36 rfl (by first | exact Nat.zero_le _ | decide) (fun _=>⟨rfl,rfl⟩) fun w S ν=>?_
 have hsp:=Split_c m te pe s (by omega)
 obtain ⟨h64,h2000⟩:=split_fine s
 have hse:=split_err (s:=s)
 have hM:isMark s=match (splitI s).1 with
  | (w,false) :: _=>decide (w=opqW∨w=redW)
  | _=>false:=rfl
 obtain ⟨B,hB⟩:∃ B,B=isMark s:=⟨_,rfl⟩
 rw [← hB]
 rw [hM] at hB
 clear hM
 generalize splitI s=x at *
 obtain ⟨fs,e⟩:=x
 dsimp only at *
 refine wa ?_
 refine cw (hsp) ?_
 intro _ _
 refine wb ?_
 match fs,h64,h2000,hse,hB with
 | [],_,_,_,hB=>
  have hB:B=false:=hB
  subst hB
  (refine TE.drawK (fun _=>false) (by rfl) (by rfl) (by rfl) ?_)
  (repeat' (first|(with_reducible refine AllP.go ?_;(first|exact trivial|exact fun i _=>⟨_,rfl⟩|((try simp only [OS]);repeat' (first|omega|exact fun i _=>⟨_,rfl⟩|refine And.intro ?_ ?_))))|(refine rg ?_ ?_)|(with_reducible first|refine stp ?_|refine tD rfl ?_)|(with_reducible first|exact PanicOk.body|exact rd.panic|refine PanicOk.then' ?_|refine PanicOk.block ?_|refine PanicOk.jump ?_)|(refine dc ?_)|(refine dn ?_)|(refine TL.done (by rfl) ?_)|(refine TL.auto tysOk rfl ?_ (by rfl) ?_ ?_)|((refine TL.one (by rfl) ?_);first|(refine sm ?_ ?_)|(refine sp ?_ ?_))|(refine sm ?_ ?_)|refine ct ?_|refine cf ?_|((refine TE.gsplit (by rfl) (by rfl) ?_ ?_<;>intro h<;>(try simp only [NS] at h)<;>(try exact xf))<;>(refine rn ?_ ?_))|((first|refine gl ?_ ?_|refine gc ?_ ?_)<;>intro h<;>(try simp only [NS] at h)<;>(try exact xf))))
  all_goals exact po
 | (w,true) :: t,h64,_,hse,hB=>
  have hB:B=false:=hB
  subst hB
  (refine TE.drawK (fun _=>false) (by rfl) (by rfl) (by rfl) ?_)
  (repeat' (first|(with_reducible refine AllP.go ?_;(first|exact trivial|exact fun i _=>⟨_,rfl⟩|((try simp only [OS]);repeat' (first|omega|exact fun i _=>⟨_,rfl⟩|refine And.intro ?_ ?_))))|(refine rg ?_ ?_)|(with_reducible first|refine stp ?_|refine tD rfl ?_)|(with_reducible first|exact PanicOk.body|exact rd.panic|refine PanicOk.then' ?_|refine PanicOk.block ?_|refine PanicOk.jump ?_)|(refine dc ?_)|(refine dn ?_)|(refine TL.done (by rfl) ?_)|(refine TL.auto tysOk rfl ?_ (by rfl) ?_ ?_)|((refine TL.one (by rfl) ?_);first|(refine sm ?_ ?_)|(refine sp ?_ ?_))|(refine sm ?_ ?_)|refine ct ?_|refine cf ?_|((refine TE.gsplit (by rfl) (by rfl) ?_ ?_<;>intro h<;>(try simp only [NS] at h)<;>(try exact xf))<;>(refine rn ?_ ?_))|((first|refine gl ?_ ?_|refine gc ?_ ?_)<;>intro h<;>(try simp only [NS] at h)<;>(try exact xf))))
  all_goals exact po
 | (w,false) :: t,h64,_,hse,hB=>
  have hB:B=decide (w=opqW∨w=redW):=hB
  have he:e=0:=Decidable.byContradiction fun k=>nomatch hse k
  have hlp:0<((w,false) :: t).length:=Nat.succ_pos _
  subst he
  by_cases h1:w=opqW
  ·rw [decide_eq_true (.inl h1)] at hB
   subst hB h1
   (refine TE.drawK (fun _=>false) (by rfl) (by rfl) (by rfl) ?_)
   refine wc ?_
   all_goals first|((refine TE.ret' io rfl tysOk (()) ?_ rfl (by rfl) ?_;all_goals (try (first|exact trivial|((with_reducible refine AllP.go ?_);dsimp only [AllP,appP];repeat' (first|refine And.intro ?_ ?_|exact zz)))));done)|(exfalso;omega)|skip
   all_goals exact absurd rfl h
  ·by_cases h2:w=redW
   ·rw [decide_eq_true (.inr h2)] at hB
    subst hB h2
    (refine TE.drawK (fun _=>false) (by rfl) (by rfl) (by rfl) ?_)
    (repeat' (first|(with_reducible refine AllP.go ?_;(first|exact trivial|exact fun i _=>⟨_,rfl⟩|((try simp only [OS]);repeat' (first|omega|exact fun i _=>⟨_,rfl⟩|refine And.intro ?_ ?_))))|(refine rg ?_ ?_)|(with_reducible first|refine stp ?_|refine tD rfl ?_)|(with_reducible first|exact PanicOk.body|exact rd.panic|refine PanicOk.then' ?_|refine PanicOk.block ?_|refine PanicOk.jump ?_)|(refine dc ?_)|(refine dn ?_)|(refine TL.done (by rfl) ?_)|(refine TL.auto tysOk rfl ?_ (by rfl) ?_ ?_)|((refine TL.one (by rfl) ?_);first|(refine sm ?_ ?_)|(refine sp ?_ ?_))|(refine sm ?_ ?_)|refine ct ?_|refine cf ?_|((refine TE.gsplit (by rfl) (by rfl) ?_ ?_<;>intro h<;>(try simp only [NS] at h)<;>(try exact xf))<;>(refine rn ?_ ?_))|((first|refine gl ?_ ?_|refine gc ?_ ?_)<;>intro h<;>(try simp only [NS] at h)<;>(try exact xf))))
    all_goals first|((refine TE.ret' io rfl tysOk (()) ?_ rfl (by rfl) ?_;all_goals (try (first|exact trivial|((with_reducible refine AllP.go ?_);dsimp only [AllP,appP];repeat' (first|refine And.intro ?_ ?_|exact zz)))));done)|(exfalso;omega)|skip
   ·rw [decide_eq_false fun k=>k.elim h1 h2] at hB
    have h4:decide (sB w=⟨#[114,101,100,105,114,101,99,116]⟩)=false:=decide_eq_false fun k=>h2 (sB_inj.1 (show sB w=sB redW from k))
    have h5:¬ sB w=⟨#[111,112,97,113,117,101]⟩:=fun k=>h1 (sB_inj.1 (show sB w=sB opqW from k))
    subst hB
    (refine TE.drawK (fun _=>false) (by rfl) (by rfl) (by rfl) ?_)
    refine wc ?_
    all_goals first|((refine TE.ret' io rfl tysOk (()) ?_ rfl (by rfl) ?_;all_goals (try (first|exact trivial|((with_reducible refine AllP.go ?_);dsimp only [AllP,appP];repeat' (first|refine And.intro ?_ ?_|exact zz)))));done)|(exfalso;omega)|(exact absurd (by assumption) h5)|skip
theorem treeO_c (l:List Bn) (hl:l.length≤1000000) (hx:∀ x∈l,lenN x.nd):Con Tryz.prog 22 [.o (.own 0)] [.own 0 37 10 (bnC l)] 1 1 U (fun _=>.o (.ro 8 (l.map (·.nd)).length (ndC (l.map (·.nd))).cell)) (fun _=>[.own 0 37 10 (bnC l)]):=by
 refine con_of Tryz.func22 rfl (by kernel_rfl) Tryz.ntmps22 rfl (by first | exact Nat.zero_le _ | decide) (fun _=>⟨rfl,rfl⟩) fun w S ν=>?_
 have hbn:(bnC l).n=l.length:=rfl
 refine wa ?_
 (refine TE.only [11,10,9,3,0] (by rfl) ?_)
 refine TE.loopG (fun q:Nat=>q≤l.length) (fun q=>[(11,.o (.c (.int .i64 q))),(3,.o (.own 1))]) [1] (fun q=>[.own 1 53 8 (ndC ((l.take q).map (·.nd)))]) (fun q=>l.length - q) 0 (by rfl) (Nat.zero_le _) ?_ ?_
 ·(refine Ent.of rfl rfl (by rfl) ?_;(try (first|exact trivial|((with_reducible refine AllP.go ?_);dsimp only [AllP,appP];repeat' (first|refine And.intro ?_ ?_|exact zz)))))
  exact LeDC.nil rfl rfl
 intro q hq
 have hn:(ndC ((l.take q).map (·.nd))).n=q:=by show ((l.take q).map (·.nd)).length=q;rw [List.length_map,List.length_take];omega
 have hn2:(l.take q).length=q:=by rw [List.length_take];omega
 by_cases hlt:q<l.length
 ·have hxq:=hx _ (getD_mem (l:=l) (d:=b0) hlt)
  refine wa ?_
  refine cw (plain_c (l.getD q b0) hxq) ?_
  intro _ _
  refine wb ?_
  refine TE.again' (q+1) (by omega) (by omega) ?_
  (refine Ent.of rfl rfl (by rfl) ?_;(try (first|exact trivial|((with_reducible refine AllP.go ?_);dsimp only [AllP,appP];repeat' (first|refine And.intro ?_ ?_|exact zz)))))
  exact listC_snoc _ (map_take hlt) (nd_row _)
 ·obtain rfl:q=l.length:=by omega
  refine wa ?_
  (refine TE.freezeN 1 (by rfl) (by rfl) ?_)
  (refine TE.ret' io rfl tysOk (()) ?_ rfl (by rfl) ?_;all_goals (try (first|exact trivial|((with_reducible refine AllP.go ?_);dsimp only [AllP,appP];repeat' (first|refine And.intro ?_ ?_|exact zz)))))
  rw [List.take_length]
  exact LeD.refl
theorem bn_setP {l:List Bn} {i:Nat} {d:DC} {o:Bool} (hi:i<l.length) (h:LeX d (bnR { l.getD i b0 with opq:=o } 8)):LeDC 10 (setC (bnC l) i 8 d) (bnC (l.set i { l.getD i b0 with opq:=o })):=by
 refine ⟨(List.length_set ..).symm,fun a j ha hj=>?_⟩
 show LeX (if a=i∧j=8 then d else bnR (l.getD a b0) j) (bnR ((l.set i { l.getD i b0 with opq:=o }).getD a b0) j)
 rw [getD_set hi]
 by_cases e:a=i
 ·subst e
  rw [if_pos rfl]
  by_cases e2:j=8
  ·subst e2
   rw [if_pos ⟨rfl,rfl⟩]
   exact h
  ·rw [if_neg (fun k=>e2 k.2)]
   refine LeX.of_eq ?_
   match j,hj,e2 with
   | 0,_,_=>rfl
   | 1,_,_=>rfl
   | 2,_,_=>rfl
   | 3,_,_=>rfl
   | 4,_,_=>rfl
   | 5,_,_=>rfl
   | 6,_,_=>rfl
   | 7,_,_=>rfl
   | 8,_,h=>exact absurd rfl h
   | 9,_,_=>rfl
   | j+10,h,_=>omega
 ·rw [if_neg (fun k=>e k.1),if_neg e]
  exact LeX.of_eq rfl
def setW (b:List Bn) (n:Nat) (w:Bs) (r:List Fld):Option (List Bn×Nat):=
 if w=opqW then (match r with
  | []=>some (b.set n { b.getD n b0 with opq:=true },n)
  | _=>none)
 else if w=redW then (match r with
  | [(q,true)]=>if (pparseE q).2≠0∨(pparseE q).1=[] then none else some (b.set n { b.getD n b0 with red:=(pparseE q).1 },n)
  | _=>none)
 else none
theorem setF_eq (b:List Bn) (w p:Bs) (r:List Fld) (last:Int):setF b ((w,false) :: (p,true) :: r) last=if (pparseE p).2≠0∨(findE (nds b) (pparseE p).1).2≠0∨(findE (nds b) (pparseE p).1).1≤last∨(b.getD (findE (nds b) (pparseE p).1).1.toNat b0).nd.kind≠1 then none else setW b (findE (nds b) (pparseE p).1).1.toNat w r:=rfl
theorem setb_c (m:Int) (te:TypeId) (pe:Value) (b:List Bn) (s:Bs) (last:Int) (hb:b.length≤1000000) (hx:∀ x∈b,okB x) (h0:0<b.length) (hl:s.length≤900000) (hlo : -1≤last):Con Tryz.prog 39 [.o (.own 4),.o (.c (.string (sB s))),.o (.c (.int .i64 last))] (glC m te pe++[.own 4 37 10 (bnC b)]) 5 5 U (fun _=>.o (.c (.int .i64 (match setS b s last with | none=>-1 | some x=>(x.2:Int))))) (fun _=>glC m te pe++[.own 4 37 10 (bnC (match setS b s last with | none=>b | some x=>x.1))]):=by
 refine con_of Tryz.func39 rfl (by kernel_rfl) Tryz.ntmps39 rfl (by first | exact Nat.zero_le _ | decide) (fun _=>⟨rfl,rfl⟩) fun w S ν=>?_
 have hmk:=mark_c m te pe s (by omega)
 obtain ⟨h64,h2000⟩:=split_fine s
 have hno:=set_mark (b:=b) (s:=s) (last:=last)
 have hbn:(bnC b).n=b.length:=rfl
 by_cases hm:isMark s=true
 rotate_left
 ·rw [Bool.not_eq_true] at hm
  rw [hm] at hmk
  rw [hno hm]
  refine wa ?_
  refine cw (hmk) ?_
  intro _ _
  refine wb ?_
  exact po
 rw [hm] at hmk
 obtain ⟨w,t,hft,hw⟩:∃ w t,(splitI s).1=(w,false) :: t∧(w=opqW∨w=redW):=by
  unfold isMark at hm
  split at hm
  ·rename_i w t e;exact ⟨w,t,e,of_decide_eq_true hm⟩
  ·cases hm
 have hS:setS b s last=setF b ((w,false) :: t) last:=by unfold setS;rw [hft]
 rw [hft] at hmk h64 h2000
 rw [hS]
 clear hS hno hft hm
 refine wa ?_
 refine cw (hmk) ?_
 intro _ _
 match t,h64,h2000 with
 | [],_,_=>
  refine wb ?_
  exact po
 | (p,false) :: r,h64,_=>
  simp only [List.length_cons] at h64
  refine wb ?_
  all_goals first | (exfalso;omega) | skip
  all_goals exact po
 | (p,true) :: r,h64,h2000=>
  have hpz:p.length≤2000:=h2000 (p,true) (by simp)
  have hpp:=pParse_c m te pe p (by omega)
  obtain ⟨pa,pe2,hpe⟩:∃ pa pe2,pparseE p=(pa,pe2):=⟨_,_,rfl⟩
  have hpo:=pparse_ok p
  rw [hpe] at hpp hpo
  dsimp only at hpo
  have hF:=setF_eq b w p r last
  rw [hpe] at hF
  dsimp only at hF
  rw [hF]
  have hg1:(((w,false) :: (p,true) :: r).getD (Int.toNat 1) ([],false))=(p,true):=rfl
  simp only [List.length_cons] at h64
  refine wb ?_
  refine cw (hpp) ?_
  intro _ _
  by_cases h1:pe2≠0
  ·rw [if_pos (.inl h1)]
   refine wb ?_
   exact po
  have hz2:pe2=0:=Decidable.not_not.1 h1
  have hpo2:=pcheck_iff.1 hpo.1
  have hti:(nds b).length=b.length:=List.length_map ..
  have hto:=treeO_c b hb fun x h=>(hx x h).1.1
  have hfi:=tFind_c (nds b) pa (by omega) (okn_nds hx) ⟨by omega,fun x h=>by have:=(name_size (hpo2.2 x h)).1;omega⟩
  have hfo:=findE_ok (l:=nds b) (p:=pa)
  obtain ⟨z,fe2,hfe⟩:∃ z fe2,findE (nds b) pa=(z,fe2):=⟨_,_,rfl⟩
  rw [hfe] at hfi hfo
  rw [hfe]
  dsimp only at hfo⊢
  refine wb ?_
  refine cw (hto) ?_
  intro _ _
  ((refine rn ?_ ?_);try (with_reducible refine AllP.go ?_;(first|exact trivial|exact fun i _=>⟨_,rfl⟩|((try simp only [OS]);repeat' (first|omega|exact fun i _=>⟨_,rfl⟩|refine And.intro ?_ ?_)))))
  refine cw (hfi) ?_
  intro _ _
  by_cases h2:fe2≠0
  ·rw [if_pos (.inr (.inl h2))]
   refine wb ?_
   exact po
  obtain ⟨fz1,fz2,_⟩:=hfo (Decidable.not_not.1 h2)
  obtain ⟨k,rfl⟩:=Int.eq_ofNat_of_zero_le fz1
  by_cases h3:(k:Int)≤last
  ·rw [if_pos (.inr (.inr (.inl h3)))]
   refine wb ?_
   exact po
  have hkl:k<b.length:=by omega
  rw [Int.toNat_natCast]
  by_cases h4:(b.getD k b0).nd.kind≠1
  ·rw [if_pos (.inr (.inr (.inr h4)))]
   refine wb ?_
   exact po
  rw [if_neg (fun e=>e.elim h1 (fun e=>e.elim h2 (fun e=>e.elim h3 h4)))]
  have hne:¬ sB redW=⟨#[111,112,97,113,117,101]⟩:=fun e=>absurd (sB_inj.1 (show sB redW=sB opqW from e)) (by decide)
  have hne2:¬ sB opqW=⟨#[114,101,100,105,114,101,99,116]⟩:=fun e=>absurd (sB_inj.1 (show sB opqW=sB redW from e)) (by decide)
  rcases hw with hw | hw
  ·subst hw
   match r,h64,h2000 with
   | [],_,_=>
    have hl2:((opqW,false) :: (p,true) :: ([]:List Fld)).length=2:=rfl
    rw [show setW b k opqW []=some (b.set k { b.getD k b0 with opq:=true },k) from rfl]
    refine wb ?_
    (refine TE.ret' io rfl tysOk (()) ?_ rfl (by rfl) ?_;all_goals (try (first|exact trivial|((with_reducible refine AllP.go ?_);dsimp only [AllP,appP];repeat' (first|refine And.intro ?_ ?_|exact zz)))))
    exact bn_setP hkl (LeX.of_eq rfl)
   | x :: r,h64,_=>
    have hl2:((opqW,false) :: (p,true) :: x :: r).length=r.length+3:=rfl
    rw [show setW b k opqW (x :: r)=none from rfl]
    refine wb ?_
    all_goals exact po
  ·subst hw
   match r,h64,h2000 with
   | [],_,_=>
    have hl2:((redW,false) :: (p,true) :: ([]:List Fld)).length=2:=rfl
    rw [show setW b k redW []=none from rfl]
    refine wb ?_
    all_goals exact po
   | x :: y :: r,h64,_=>
    have hl2:((redW,false) :: (p,true) :: x :: y :: r).length=r.length+4:=rfl
    rw [show setW b k redW (x :: y :: r)=none by obtain ⟨x1,x2⟩:=x;cases x2<;>rfl]
    refine wb ?_
    all_goals exact po
   | [(q,false)],_,_=>
    have hl2:((redW,false) :: (p,true) :: [(q,false)]).length=3:=rfl
    rw [show setW b k redW [(q,false)]=none from rfl]
    refine wb ?_
    all_goals exact po
   | [(q,true)],_,h2000=>
    have hl2:((redW,false) :: (p,true) :: [(q,true)]).length=3:=rfl
    have hqz:q.length≤2000:=h2000 (q,true) (by simp)
    have hqp:=pParse_c m te pe q (by omega)
    rw [show setW b k redW [(q,true)]=if (pparseE q).2≠0∨(pparseE q).1=[] then none else some (b.set k { b.getD k b0 with red:=(pparseE q).1 },k) from rfl]
    generalize pparseE q=x at *
    obtain ⟨dst,e3⟩:=x
    dsimp only at hqp⊢
    refine wb ?_
    refine cw (hqp) ?_
    intro _ _
    by_cases g1:e3≠0
    ·rw [if_pos (.inl g1)]
     refine wb ?_
     exact po
    by_cases g2:dst=[]
    ·rw [if_pos (.inr g2)]
     have g3:dst.length=0:=by rw [g2];rfl
     refine wb ?_
     exact po
    ·rw [if_neg (fun e=>e.elim g1 g2)]
     have g3:0<dst.length:=List.length_pos_iff.2 g2
     refine wb ?_
     (refine TE.ret' io rfl tysOk (()) ?_ rfl (by rfl) ?_;all_goals (try (first|exact trivial|((with_reducible refine AllP.go ?_);dsimp only [AllP,appP];repeat' (first|refine And.intro ?_ ?_|exact zz)))))
     exact bn_setR hkl (LeX.of_eq rfl)
abbrev rdH (r:Rd):List Chunk:=[.box 0 153 [.ro 2 r.1.length (fdC r.1).cell,.c (.bool r.2)]]
theorem fd_tail (x:Fld) (t:List Fld) {n:Nat} {c:Nat→Nat→DC} (hn:n=t.length) (hc:∀ i j,c i j=(fdC (x :: t)).cell (1+i) j):LeD 2 n c t.length (fdC t).cell:=
 ⟨hn,fun i j hi hj=>LeX.of_eq (by
  rw [hc]
  show fdR ((x :: t).getD (1+i) ([],false)) j=fdR (t.getD i ([],false)) j
  rw [Nat.add_comm]
  rfl)⟩
theorem next_c (q:Bool) (r:Rd) (hr:r.1.length≤1000000):Con Tryz.prog 113 [.o (.ptr 0 0),.o (.c (.bool q))] (rdH r) 1 1 U (fun _=>.o (.c (.string (sB (nextR q r).1)))) (fun _=>rdH (nextR q r).2):=by
 refine con_of Tryz.func113 rfl (by kernel_rfl) Tryz.ntmps113 rfl (by first | exact Nat.zero_le _ | decide) (fun _=>⟨rfl,rfl⟩) fun w S ν=>?_
 match r,hr with
 | ([],b),_=>
  refine wa ?_
  exact po
 | ((s,b) :: t,c),hr=>
  simp only [List.length_cons] at hr
  cases q<;>cases b
  ·rw [next_ff]
   (repeat' (first|(with_reducible refine AllP.go ?_;(first|exact trivial|exact fun i _=>⟨_,rfl⟩|((try simp only [OS]);repeat' (first|omega|exact fun i _=>⟨_,rfl⟩|refine And.intro ?_ ?_))))|(refine rg ?_ ?_)|(with_reducible first|refine stp ?_|refine tD rfl ?_)|refine ct ?_|refine cf ?_|((refine TE.gsplit (by rfl) (by rfl) ?_ ?_<;>intro h<;>(try simp only [NS] at h)<;>(try exact xf))<;>(refine rn ?_ ?_))|((first|refine gl ?_ ?_|refine gc ?_ ?_)<;>intro h<;>(try simp only [NS] at h)<;>(try exact xf))))
   ·exact absurd h (by simp;omega)
   ·(refine TE.ret' io rfl tysOk (()) ?_ rfl (by rfl) ?_;all_goals (try (first|exact trivial|((with_reducible refine AllP.go ?_);dsimp only [AllP,appP];repeat' (first|refine And.intro ?_ ?_|exact zz)))))
    exact fd_tail _ _ (by simp) fun _ _=>rfl
  ·rw [next_ft]
   (repeat' (first|(with_reducible refine AllP.go ?_;(first|exact trivial|exact fun i _=>⟨_,rfl⟩|((try simp only [OS]);repeat' (first|omega|exact fun i _=>⟨_,rfl⟩|refine And.intro ?_ ?_))))|(refine rg ?_ ?_)|(with_reducible first|refine stp ?_|refine tD rfl ?_)|refine ct ?_|refine cf ?_|((refine TE.gsplit (by rfl) (by rfl) ?_ ?_<;>intro h<;>(try simp only [NS] at h)<;>(try exact xf))<;>(refine rn ?_ ?_))|((first|refine gl ?_ ?_|refine gc ?_ ?_)<;>intro h<;>(try simp only [NS] at h)<;>(try exact xf))))
   ·exact absurd h (by simp;omega)
   ·exact po
  ·rw [next_tf]
   (repeat' (first|(with_reducible refine AllP.go ?_;(first|exact trivial|exact fun i _=>⟨_,rfl⟩|((try simp only [OS]);repeat' (first|omega|exact fun i _=>⟨_,rfl⟩|refine And.intro ?_ ?_))))|(refine rg ?_ ?_)|(with_reducible first|refine stp ?_|refine tD rfl ?_)|refine ct ?_|refine cf ?_|((refine TE.gsplit (by rfl) (by rfl) ?_ ?_<;>intro h<;>(try simp only [NS] at h)<;>(try exact xf))<;>(refine rn ?_ ?_))|((first|refine gl ?_ ?_|refine gc ?_ ?_)<;>intro h<;>(try simp only [NS] at h)<;>(try exact xf))))
   ·exact absurd h (by simp;omega)
   ·exact po
  ·rw [next_tt]
   (repeat' (first|(with_reducible refine AllP.go ?_;(first|exact trivial|exact fun i _=>⟨_,rfl⟩|((try simp only [OS]);repeat' (first|omega|exact fun i _=>⟨_,rfl⟩|refine And.intro ?_ ?_))))|(refine rg ?_ ?_)|(with_reducible first|refine stp ?_|refine tD rfl ?_)|refine ct ?_|refine cf ?_|((refine TE.gsplit (by rfl) (by rfl) ?_ ?_<;>intro h<;>(try simp only [NS] at h)<;>(try exact xf))<;>(refine rn ?_ ?_))|((first|refine gl ?_ ?_|refine gc ?_ ?_)<;>intro h<;>(try simp only [NS] at h)<;>(try exact xf))))
   ·exact absurd h (by simp;omega)
   ·(refine TE.ret' io rfl tysOk (()) ?_ rfl (by rfl) ?_;all_goals (try (first|exact trivial|((with_reducible refine AllP.go ?_);dsimp only [AllP,appP];repeat' (first|refine And.intro ?_ ?_|exact zz)))))
    exact fd_tail _ _ (by simp) fun _ _=>rfl
theorem number_c (m:Int) (te:TypeId) (pe:Value) (r:Rd) (hr:r.1.length≤1000000) (hs:∀ f∈r.1,f.1.length≤1000000):Con Tryz.prog 114 [.o (.ptr 4 0)] (glC m te pe++[.box 4 153 [.ro 2 r.1.length (fdC r.1).cell,.c (.bool r.2)]]) 5 5 U (fun _=>.o (.c (.int .i64 (numR r).1))) (fun _=>glC m te pe++[.box 4 153 [.ro 2 (numR r).2.1.length (fdC (numR r).2.1).cell,.c (.bool (numR r).2.2)]]):=by
 refine con_of Tryz.func114 rfl (by kernel_rfl) Tryz.ntmps114 rfl (by first | exact Nat.zero_le _ | decide) (fun _=>⟨rfl,rfl⟩) fun w S ν=>?_
 have hn:=next_c false r hr
 have hsl:(nextR false r).1.length≤1000000:=by
  unfold nextR
  split
  ·simp
  ·rename_i x t e
   split
   ·simp
   ·exact hs x (by rw [e];exact List.mem_cons_self ..)
 have hi:=Int_c m te pe (nextR false r).1 (-9223372036854775808) 9223372036854775807 hsl
 refine wa ?_
 refine cw (hn) ?_
 intro _ _
 ((refine rn ?_ ?_);try (with_reducible refine AllP.go ?_;(first|exact trivial|exact fun i _=>⟨_,rfl⟩|((try simp only [OS]);repeat' (first|omega|exact fun i _=>⟨_,rfl⟩|refine And.intro ?_ ?_)))))
 refine cw (hi) ?_
 intro _ _
 have e1:(numR r).1=(numP (nextR false r).1).1:=rfl
 have e2:(numR r).2.1=(nextR false r).2.1:=rfl
 have e3:(numR r).2.2=((nextR false r).2.2 || decide ((numP (nextR false r).1).2≠0)):=rfl
 have e4:numP (nextR false r).1=intI (nextR false r).1 (-9223372036854775808) 9223372036854775807:=rfl
 rw [e1,e2,e3,e4]
 generalize intI (nextR false r).1 (-9223372036854775808) 9223372036854775807=x
 obtain ⟨x1,x2⟩:=x
 generalize nextR false r=y
 obtain ⟨s,fs,b⟩:=y
 dsimp only
 cases b
 ·refine wb ?_
  (refine TE.ret' io rfl tysOk (()) ?_ rfl (by rfl) ?_;all_goals (try (first|exact trivial|((with_reducible refine AllP.go ?_);dsimp only [AllP,appP];repeat' (first|refine And.intro ?_ ?_|exact zz)))))
  ·refine congrArg Value.bool ?_
   by_cases h:x2=0<;>simp [h]
 ·refine wb ?_
  exact po
abbrev rd0 (s:Bs):Rd:=((splitI s).1,!decide ((splitI s).2=0))
theorem nextR_sub (q:Bool) (r:Rd):∀ f∈(nextR q r).2.1,f∈r.1:=by
 intro f hf
 unfold nextR at hf
 split at hf
 ·cases hf
 ·rename_i x t e
  rw [e]
  split at hf
  ·exact hf
  ·exact List.mem_cons_of_mem _ hf
theorem nextR_str {q:Bool} {r:Rd} {N:Nat} (h:∀ f∈r.1,f.1.length≤N):(nextR q r).1.length≤N:=by
 unfold nextR
 split
 ·exact Nat.zero_le _
 ·rename_i x t e
  split
  ·exact Nat.zero_le _
  ·exact h x (by rw [e];exact List.mem_cons_self ..)
def rdOk (r:Rd):Prop:=r.1.length≤64∧∀ f∈r.1,f.1.length≤2000
theorem rdOk.next {r:Rd} (h:rdOk r) (q:Bool):rdOk (nextR q r).2:=⟨Nat.le_trans (nextR_le q r) h.1,fun f hf=>h.2 f (nextR_sub q r f hf)⟩
theorem rdOk.num {r:Rd} (h:rdOk r):rdOk (numR r).2:=h.next false
abbrev rdS (m:Int) (te:TypeId) (pe:Value) (k:Int) (p:List ByteArray) (r:Rd) (c:Int) (d:ByteArray) (a b:Int):AS:=⟨[(12,.o (.ro 1 p.length (paC p).cell)),(8,.o (.ptr 7 0)),(7,.o (.ptr 6 0)),(2,.o (.ptr 5 0))],.box 6 153 [.ro 2 r.1.length (fdC r.1).cell,.c (.bool r.2)] :: .box 7 53 [.c (.int .i64 0),.c (.string ⟨#[]⟩),.c (.int .i64 k),.c (.slice none 0 0),.c (.string d),.c (.int .i64 a),.c (.int .i64 b),.c (.int .i64 c)] :: .box 5 53 [.c (.int .i64 0),.c (.string ⟨#[]⟩),.c (.int .i64 0),.c (.slice none 0 0),.c (.string ⟨#[]⟩),.c (.int .i64 0),.c (.int .i64 0),.c (.int .i64 0)] :: glT m te pe,8⟩
theorem read_c (m:Int) (te:TypeId) (pe:Value) (s:Bs) (hl:s.length≤900000):Con Tryz.prog 78 [.o (.c (.string (sB s)))] (glT m te pe) 5 5 U (fun _=>.t [.inr (ndA (readK (rd0 s)).1),.inl (.ro 1 (readK (rd0 s)).2.1.length (paC (readK (rd0 s)).2.1).cell),.inl (.c (.bool (readK (rd0 s)).2.2))]) (fun _=>glT m te pe):=by
 refine con_of Tryz.func78 rfl (by kernel_rfl) Tryz.ntmps78 rfl (by first | exact Nat.zero_le _ | decide) (fun _=>⟨rfl,rfl⟩) fun w S ν=>?_
 obtain ⟨h64,h2000⟩:=split_fine s
 have hsp:=Split_c m te pe s (by omega)
 refine wa ?_
 refine cw (hsp) ?_
 intro _ _
 refine wb ?_
 obtain ⟨r0,hr0⟩:∃ r0,r0=rd0 s:=⟨_,rfl⟩
 have hr1:(splitI s).1=r0.1:=by rw [hr0]
 have hr2:(!decide ((splitI s).2=0))=r0.2:=by rw [hr0]
 rw [← hr0]
 rw [hr1] at h64 h2000⊢
 rw [hr2]
 refine cw (next_c false r0 (by omega)) ?_
 intro _ _
 refine wb ?_
 obtain ⟨w1,hw1⟩:∃ w1,w1=nextR false r0:=⟨_,rfl⟩
 rw [← hw1]
 (refine TE.step rfl rfl rfl (fun _ h=>nomatch h) (m_statLoad tysOk rfl rfl (by rfl) (by rfl)) ?_;rintro _ rfl)
 ((refine rn ?_ ?_);try (with_reducible refine AllP.go ?_;(first|exact trivial|exact fun i _=>⟨_,rfl⟩|((try simp only [OS]);repeat' (first|omega|exact fun i _=>⟨_,rfl⟩|refine And.intro ?_ ?_)))))
 (repeat (with_reducible first|refine stp ?_|refine tD rfl ?_))
 have hkn:∀ q:Nat,kindN w1.1 (q+1)=if kindL.getD q []=w1.1 then (q:Int) else kindN w1.1 q:=fun _=>rfl
 refine TE.loopG (fun q:Nat=>q≤6) (fun q=>[(27,.o (.c (.int .i64 q)))]) [7] (fun q=>[.box 7 53 [.c (.int .i64 0),.c (.string ⟨#[]⟩),.c (.int .i64 (kindN w1.1 q)),.c (.slice none 0 0),.c (.string ⟨#[]⟩),.c (.int .i64 0),.c (.int .i64 0),.c (.int .i64 0)]]) (fun q=>6 - q) 0 (by rfl) (Nat.zero_le _) ?_ ?_
 ·exact ee
 intro q hq
 (repeat (with_reducible first|refine stp ?_|refine tD rfl ?_))
 ((refine rg ?_ ?_);try (with_reducible refine AllP.go ?_;(first|exact trivial|exact fun i _=>⟨_,rfl⟩|((try simp only [OS]);repeat' (first|omega|exact fun i _=>⟨_,rfl⟩|refine And.intro ?_ ?_)))))
 (repeat (with_reducible first|refine stp ?_|refine tD rfl ?_))
 (refine TE.cond_split (by rfl) ?_ ?_<;>intro h<;>(try simp only [NS] at h)<;>(try (exfalso;first | omega | exact h trivial | exact h | exact h rfl | contradiction)))
 ·rcases q with _ | _ | _ | _ | _ | _ | q
  all_goals try (exfalso;omega)
  all_goals (repeat (with_reducible first|refine stp ?_|refine tD rfl ?_))
  all_goals refine TE.region ?_
  all_goals (refine TE.step rfl rfl rfl (fun _ h=>nomatch h) (m_pure tysOk rfl ?_) ?_;rotate_left;rintro _ rfl;rotate_right;(with_reducible refine AllP.go ?_;(first|exact trivial|exact fun i _=>⟨_,rfl⟩|((try simp only [OS]);repeat' (first|omega|exact fun i _=>⟨_,rfl⟩|refine And.intro ?_ ?_)))))
  all_goals (refine TE.step rfl rfl rfl (fun _ h=>nomatch h) (m_aggIdx1 tysOk rfl (Tryz.underlying137) rfl rfl rfl rfl rfl (by rfl) ?_) ?_;rotate_left;rintro _ rfl;rotate_right)
  all_goals try (first | exact trivial | exact fun i _=>⟨_,rfl⟩ | ((try simp only [OS]);repeat' (first | omega | exact fun i _=>⟨_,rfl⟩ | refine And.intro ?_ ?_)))
  all_goals ((refine rn ?_ ?_);try (with_reducible refine AllP.go ?_;(first|exact trivial|exact fun i _=>⟨_,rfl⟩|((try simp only [OS]);repeat' (first|omega|exact fun i _=>⟨_,rfl⟩|refine And.intro ?_ ?_)))))
  all_goals (repeat (with_reducible first|refine stp ?_|refine tD rfl ?_))
  all_goals ((refine rg ?_ ?_);try (with_reducible refine AllP.go ?_;(first|exact trivial|exact fun i _=>⟨_,rfl⟩|((try simp only [OS]);repeat' (first|omega|exact fun i _=>⟨_,rfl⟩|refine And.intro ?_ ?_)))))
  all_goals (repeat (with_reducible first|refine stp ?_|refine tD rfl ?_))
  all_goals (refine TE.cond_split (by rfl) ?_ ?_<;>intro h<;>(try simp only [NS] at h)<;>(try (exfalso;first | omega | exact h trivial | exact h | exact h rfl | contradiction)))
  ·have hk:kindN w1.1 1=((0:Nat):Int):=(hkn 0).trans (if_pos (sB_inj.1 h))
   refine wa ?_
   refine TE.again' 1 (by decide) (by decide) ?_
   rw [hk]
   exact ee
  ·have hk:kindN w1.1 1=kindN w1.1 0:=(hkn 0).trans (if_neg (fun e=>h (sB_inj.2 e)))
   refine wa ?_
   refine TE.again' 1 (by decide) (by decide) ?_
   rw [hk]
   exact ee
  ·have hk:kindN w1.1 2=((1:Nat):Int):=(hkn 1).trans (if_pos (sB_inj.1 h))
   refine wa ?_
   refine TE.again' 2 (by decide) (by decide) ?_
   rw [hk]
   exact ee
  ·have hk:kindN w1.1 2=kindN w1.1 1:=(hkn 1).trans (if_neg (fun e=>h (sB_inj.2 e)))
   refine wa ?_
   refine TE.again' 2 (by decide) (by decide) ?_
   rw [hk]
   exact ee
  ·have hk:kindN w1.1 3=((2:Nat):Int):=(hkn 2).trans (if_pos (sB_inj.1 h))
   refine wa ?_
   refine TE.again' 3 (by decide) (by decide) ?_
   rw [hk]
   exact ee
  ·have hk:kindN w1.1 3=kindN w1.1 2:=(hkn 2).trans (if_neg (fun e=>h (sB_inj.2 e)))
   refine wa ?_
   refine TE.again' 3 (by decide) (by decide) ?_
   rw [hk]
   exact ee
  ·have hk:kindN w1.1 4=((3:Nat):Int):=(hkn 3).trans (if_pos (sB_inj.1 h))
   refine wa ?_
   refine TE.again' 4 (by decide) (by decide) ?_
   rw [hk]
   exact ee
  ·have hk:kindN w1.1 4=kindN w1.1 3:=(hkn 3).trans (if_neg (fun e=>h (sB_inj.2 e)))
   refine wa ?_
   refine TE.again' 4 (by decide) (by decide) ?_
   rw [hk]
   exact ee
  ·have hk:kindN w1.1 5=((4:Nat):Int):=(hkn 4).trans (if_pos (sB_inj.1 h))
   refine wa ?_
   refine TE.again' 5 (by decide) (by decide) ?_
   rw [hk]
   exact ee
  ·have hk:kindN w1.1 5=kindN w1.1 4:=(hkn 4).trans (if_neg (fun e=>h (sB_inj.2 e)))
   refine wa ?_
   refine TE.again' 5 (by decide) (by decide) ?_
   rw [hk]
   exact ee
  ·have hk:kindN w1.1 6=((5:Nat):Int):=(hkn 5).trans (if_pos (sB_inj.1 h))
   refine wa ?_
   refine TE.again' 6 (by decide) (by decide) ?_
   rw [hk]
   exact ee
  ·have hk:kindN w1.1 6=kindN w1.1 5:=(hkn 5).trans (if_neg (fun e=>h (sB_inj.2 e)))
   refine wa ?_
   refine TE.again' 6 (by decide) (by decide) ?_
   rw [hk]
   exact ee
 obtain rfl:q=6:=by omega
 rw [show kindN w1.1 6=kindOf w1.1 from rfl]
 refine wa ?_
 have hro:rdOk r0:=⟨h64,h2000⟩
 have hnl:∀ (q:Bool) (r:Rd),(nextR q r).2.1.length≤r.1.length:=nextR_le
 have hw1l:w1.2.1.length≤64:=by rw [hw1];have:=hnl false r0;omega
 refine cw (next_c true w1.2 (by omega)) ?_
 intro _ _
 obtain ⟨u1,ht1⟩:∃ u1,u1=nextR true w1.2:=⟨_,rfl⟩
 rw [← ht1]
 have hs1:u1.1.length≤2000:=by rw [ht1];exact nextR_str (by rw [hw1];exact (hro.next false).2)
 ((refine rn ?_ ?_);try (with_reducible refine AllP.go ?_;(first|exact trivial|exact fun i _=>⟨_,rfl⟩|((try simp only [OS]);repeat' (first|omega|exact fun i _=>⟨_,rfl⟩|refine And.intro ?_ ?_)))))
 refine cw (pParse_c m te pe u1.1 (by omega)) ?_
 intro _ _
 obtain ⟨p1,hp1⟩:∃ p1,p1=pparseE u1.1:=⟨_,rfl⟩
 rw [← hp1]
 ((refine rn ?_ ?_);try (with_reducible refine AllP.go ?_;(first|exact trivial|exact fun i _=>⟨_,rfl⟩|((try simp only [OS]);repeat' (first|omega|exact fun i _=>⟨_,rfl⟩|refine And.intro ?_ ?_)))))
 (repeat (with_reducible first|refine stp ?_|refine tD rfl ?_))
 obtain ⟨k,hk⟩:∃ k,k=kindOf w1.1:=⟨_,rfl⟩
 have hKK:readK r0=tailK k p1.1 (u1.2.1,(u1.2.2 || decide (k=0)) || decide (p1.2≠0)):=by
  rw [hk,hp1,ht1,hw1];rfl
 rw [hKK,← hk]
 have ht1l:u1.2.1.length≤64:=by rw [ht1];have:=hnl true w1.2;omega
 obtain ⟨b1,hb1⟩:∃ b1,b1=((u1.2.2 || decide (k=0)) || decide (p1.2≠0)):=⟨_,rfl⟩
 rw [← hb1]
 (refine TE.mid (ι:=Unit) (fun _=>True) (fun _=>rdS m te pe k p1.1 (u1.2.1,b1) 0 eS 0 0) ?_ fun _ _=>?_)
 ·obtain ⟨ts,tf,tb⟩:=u1
  dsimp only at hb1⊢
  cases tb
  ·(repeat' (first|(with_reducible refine AllP.go ?_;(first|exact trivial|exact fun i _=>⟨_,rfl⟩|((try simp only [OS]);repeat' (first|omega|exact fun i _=>⟨_,rfl⟩|refine And.intro ?_ ?_))))|(refine rg ?_ ?_)|(with_reducible first|refine stp ?_|refine tD rfl ?_)|refine ct ?_|refine cf ?_|((refine TE.gsplit (by rfl) (by rfl) ?_ ?_<;>intro h<;>(try simp only [NS] at h)<;>(try exact xf))<;>(refine rn ?_ ?_))|((first|refine gl ?_ ?_|refine gc ?_ ?_)<;>intro h<;>(try simp only [NS] at h)<;>(try exact xf))))
   ·have e:b1=true:=by rw [hb1,decide_eq_true (by assumption)];rfl
    rw [e]
    exact aa
   ·have e:(!decide (p1.2=0))=b1:=by rw [hb1,decide_eq_false (show ¬ k=0 by assumption)];by_cases h:p1.2=0<;>simp [h]
    rw [← e]
    exact aa
  ·rw [hb1]
   refine wa ?_
   exact aa
 obtain ⟨r1,hr1'⟩:∃ r1:Rd,r1=(u1.2.1,b1):=⟨_,rfl⟩
 rw [← hr1']
 have ho1:rdOk r1:=by rw [hr1',ht1,hw1];exact ((hro.next false).next true)
 have hlk:=linked_c k
 refine TE.thenN ?_
 (refine TE.seqM (ι:=Unit) (fun _=>True) (fun _=>rdS m te pe k p1.1 (numL k r1).2 (numL k r1).1 eS 0 0) ?_ fun _ _=>?_)
 ·refine wa ?_
  refine cw (hlk) ?_
  intro _ _
  by_cases hl:linkK k=true
  ·have hnum:numL k r1=numR r1:=if_pos hl
   rw [hl,hnum]
   refine wb ?_
   refine cw (number_c m te pe r1 (by have:=ho1.1;omega) (fun f hf=>by have:=ho1.2 f hf;omega)) ?_
   intro _ _
   refine wb ?_
   exact aa
  ·have hnum:numL k r1=(0,r1):=if_neg hl
   rw [Bool.not_eq_true] at hl
   rw [hl,hnum]
   refine wb ?_
   exact aa
 have ho2:rdOk (numL k r1).2:=by
  unfold numL
  split
  ·exact ho1.num
  ·exact ho1
 obtain ⟨c,r2,hr2'⟩:∃ c r2,numL k r1=(c,r2):=⟨_,_,rfl⟩
 rw [hr2'] at ho2⊢
 dsimp only at ho2⊢
 have hT1:tailK k p1.1 r1=(⟨0,eS,k,(loopR (num4 k (num4 k (dataR k r2).2).2).2.1.length [] (num4 k (num4 k (dataR k r2).2).2).2).1,sB (dataR k r2).1,(num4 k (dataR k r2).2).1,(num4 k (num4 k (dataR k r2).2).2).1,c⟩,p1.1,!(loopR (num4 k (num4 k (dataR k r2).2).2).2.1.length [] (num4 k (num4 k (dataR k r2).2).2).2).2.2):=by
  unfold tailK
  rw [hr2']
 obtain ⟨d,r3,hr3⟩:∃ d r3,dataR k r2=(d,r3):=⟨_,_,rfl⟩
 obtain ⟨a,r4,hr4⟩:∃ a r4,num4 k r3=(a,r4):=⟨_,_,rfl⟩
 obtain ⟨b,r5,hr5⟩:∃ b r5,num4 k r4=(b,r5):=⟨_,_,rfl⟩
 rw [hr3] at hT1
 dsimp only at hT1
 rw [hr4] at hT1
 dsimp only at hT1
 rw [hr5] at hT1
 dsimp only at hT1
 rw [hT1]
 have ho3:rdOk r3:=by
  have e:r3=(dataR k r2).2:=by rw [hr3]
  rw [e]
  unfold dataR
  split
  ·exact ho2.next true
  ·exact ho2
 have ho4:rdOk r4:=by
  have e:r4=(num4 k r3).2:=by rw [hr4]
  rw [e]
  unfold num4
  split
  ·exact ho3.num
  ·exact ho3
 have ho5:rdOk r5:=by
  have e:r5=(num4 k r4).2:=by rw [hr5]
  rw [e]
  unfold num4
  split
  ·exact ho4.num
  ·exact ho4
 (refine TE.seqM (ι:=Unit) (fun _=>True) (fun _=>rdS m te pe k p1.1 r5 c (sB d) a b) ?_ fun _ _=>?_)
 ·(repeat' (first|(with_reducible refine AllP.go ?_;(first|exact trivial|exact fun i _=>⟨_,rfl⟩|((try simp only [OS]);repeat' (first|omega|exact fun i _=>⟨_,rfl⟩|refine And.intro ?_ ?_))))|(refine rg ?_ ?_)|(with_reducible first|refine stp ?_|refine tD rfl ?_)|refine ct ?_|refine cf ?_|((refine TE.gsplit (by rfl) (by rfl) ?_ ?_<;>intro h<;>(try simp only [NS] at h)<;>(try exact xf))<;>(refine rn ?_ ?_))|((first|refine gl ?_ ?_|refine gc ?_ ?_)<;>intro h<;>(try simp only [NS] at h)<;>(try exact xf))))
  ·have e3:nextR true r2=(d,r3):=(show dataR k r2=nextR true r2 from if_pos (decide_eq_true (by omega))).symm.trans hr3
   have e4:(0,r3)=(a,r4):=(show num4 k r3=(0,r3) from if_neg (by omega)).symm.trans hr4
   have e5:(0,r4)=(b,r5):=(show num4 k r4=(0,r4) from if_neg (by omega)).symm.trans hr5
   obtain ⟨rfl,rfl⟩:=Prod.mk.inj e4
   obtain ⟨rfl,rfl⟩:=Prod.mk.inj e5
   have hc:=next_c true r2 (by have:=ho2.1;omega)
   rw [e3] at hc
   refine cw (hc) ?_
   intro _ _
   refine wb ?_
   exact aa
  ·have e3:nextR true r2=(d,r3):=(show dataR k r2=nextR true r2 from if_pos (decide_eq_true (by omega))).symm.trans hr3
   have e4:(0,r3)=(a,r4):=(show num4 k r3=(0,r3) from if_neg (by omega)).symm.trans hr4
   have e5:(0,r4)=(b,r5):=(show num4 k r4=(0,r4) from if_neg (by omega)).symm.trans hr5
   obtain ⟨rfl,rfl⟩:=Prod.mk.inj e4
   obtain ⟨rfl,rfl⟩:=Prod.mk.inj e5
   have hc:=next_c true r2 (by have:=ho2.1;omega)
   rw [e3] at hc
   refine cw (hc) ?_
   intro _ _
   refine wb ?_
   exact aa
  ·have e3:([],r2)=(d,r3):=(show dataR k r2=([],r2) from if_neg (fun h=>by have:k=2∨k=3:=of_decide_eq_true h;omega)).symm.trans hr3
   obtain ⟨rfl,rfl⟩:=Prod.mk.inj e3
   have e4:numR r2=(a,r4):=(show num4 k r2=numR r2 from if_pos (by omega)).symm.trans hr4
   have e5:numR r4=(b,r5):=(show num4 k r4=numR r4 from if_pos (by omega)).symm.trans hr5
   have hc:=number_c m te pe r2 (by have:=ho2.1;omega) (fun f hf=>by have:=ho2.2 f hf;omega)
   have hc2:=number_c m te pe r4 (by have:=ho4.1;omega) (fun f hf=>by have:=ho4.2 f hf;omega)
   rw [e4] at hc
   rw [e5] at hc2
   refine cw (hc) ?_
   intro _ _
   ((refine rn ?_ ?_);try (with_reducible refine AllP.go ?_;(first|exact trivial|exact fun i _=>⟨_,rfl⟩|((try simp only [OS]);repeat' (first|omega|exact fun i _=>⟨_,rfl⟩|refine And.intro ?_ ?_)))))
   refine cw (hc2) ?_
   intro _ _
   refine wb ?_
   exact aa
  ·have e3:([],r2)=(d,r3):=(show dataR k r2=([],r2) from if_neg (fun h=>by have:k=2∨k=3:=of_decide_eq_true h;omega)).symm.trans hr3
   obtain ⟨rfl,rfl⟩:=Prod.mk.inj e3
   have e4:(0,r2)=(a,r4):=(show num4 k r2=(0,r2) from if_neg (by omega)).symm.trans hr4
   have e5:(0,r4)=(b,r5):=(show num4 k r4=(0,r4) from if_neg (by omega)).symm.trans hr5
   obtain ⟨rfl,rfl⟩:=Prod.mk.inj e4
   obtain ⟨rfl,rfl⟩:=Prod.mk.inj e5
   exact aa
 obtain ⟨R,hR⟩:∃ R,R=loopR r5.1.length [] r5:=⟨_,rfl⟩
 rw [← hR]
 refine TE.nilBox 7 3 39 2 (by rfl) (by rfl) ?_
 (repeat (with_reducible first|refine stp ?_|refine tD rfl ?_))
 refine TE.loopG (fun q:Nat×List At.At×Rd=>loopR q.1 q.2.1 q.2.2=R∧(q.2.2.2=true∨q.2.2.1.length≤q.1)∧rdOk q.2.2∧q.2.1.length+q.1≤64) (fun q=>[]) [6,7,8] (fun q=>[.box 6 153 [.ro 2 q.2.2.1.length (fdC q.2.2.1).cell,.c (.bool q.2.2.2)],.box 7 53 [.c (.int .i64 0),.c (.string ⟨#[]⟩),.c (.int .i64 k),.own 8,.c (.string (sB d)),.c (.int .i64 a),.c (.int .i64 b),.c (.int .i64 c)],.own 8 39 2 (atC q.2.1)]) (fun q=>q.1) (r5.1.length,[],r5) (by rfl) ⟨hR.symm,.inr (Nat.le_refl _),ho5,by have:=ho5.1;simp only [List.length_nil];omega⟩ ?_ ?_
 ·(refine Ent.of rfl rfl (by rfl) ?_;(try (first|exact trivial|((with_reducible refine AllP.go ?_);dsimp only [AllP,appP];repeat' (first|refine And.intro ?_ ?_|exact zz)))))
  exact LeDC.nil rfl rfl
 rintro ⟨kk,out,fs,bad⟩ ⟨g1,g2,g3,g4⟩
 dsimp only at g1 g2 g3 g4
 obtain ⟨o1,o2⟩:=g3
 dsimp only at o1 o2
 cases bad
 ·have hx1:=next_c true (fs,false) (by dsimp only;omega)
  obtain ⟨v,rv,hv1⟩:∃ v rv,nextR true (fs,false)=(v,rv):=⟨_,_,rfl⟩
  have hov:rdOk rv:=by have:=(show rdOk (fs,false) from ⟨o1,o2⟩).next true;rw [hv1] at this;exact this
  have hx2:=next_c true rv (by have:=hov.1;omega)
  obtain ⟨v2,rv2,hv2⟩:∃ v2 rv2,nextR true rv=(v2,rv2):=⟨_,_,rfl⟩
  have hov2:rdOk rv2:=by have:=hov.next true;rw [hv2] at this;exact this
  rw [hv1] at hx1
  rw [hv2] at hx2
  (repeat' (first|(with_reducible refine AllP.go ?_;(first|exact trivial|exact fun i _=>⟨_,rfl⟩|((try simp only [OS]);repeat' (first|omega|exact fun i _=>⟨_,rfl⟩|refine And.intro ?_ ?_))))|(refine rg ?_ ?_)|(with_reducible first|refine stp ?_|refine tD rfl ?_)|refine ct ?_|refine cf ?_|((refine TE.gsplit (by rfl) (by rfl) ?_ ?_<;>intro h<;>(try simp only [NS] at h)<;>(try exact xf))<;>(refine rn ?_ ?_))|((first|refine gl ?_ ?_|refine gc ?_ ?_)<;>intro h<;>(try simp only [NS] at h)<;>(try exact xf))))
  ·have hne:fs≠[]:=fun e=>by subst e;exact absurd h (by simp)
   obtain ⟨kk',rfl⟩:∃ kk',kk=kk' + 1:=⟨kk - 1,by have:=List.length_pos_iff.2 hne;have g2:=g2.resolve_left (by decide);omega⟩
   have hstp:loopR (kk' + 1) out (fs,false)=loopR kk' (out++[(sB v,sB v2)]) rv2:=by
    rw [loopR_step hne rfl,hv1]
    dsimp only
    rw [hv2]
   have hnx:rv2.2=true∨rv2.1.length≤kk':=by
    have:=loopR_next (r:=(fs,false)) hne rfl (g2.resolve_left (by decide))
    rw [hv1] at this
    dsimp only at this
    rw [hv2] at this
    exact this
   refine cw (hx1) ?_
   intro _ _
   refine wb ?_
   (refine TE.only [13,12,8,7,2] (by rfl) ?_)
   (refine TE.drawK (fun _=>false) (by rfl) (by rfl) (by rfl) ?_)
   (repeat' (first|(with_reducible refine AllP.go ?_;(first|exact trivial|exact fun i _=>⟨_,rfl⟩|((try simp only [OS]);repeat' (first|omega|exact fun i _=>⟨_,rfl⟩|refine And.intro ?_ ?_))))|(with_reducible first|exact PanicOk.body|exact rd.panic|refine PanicOk.then' ?_|refine PanicOk.block ?_|refine PanicOk.jump ?_)|(refine TL.done (by rfl) ?_)|(refine TL.auto tysOk rfl ?_ (by rfl) ?_ ?_)|(refine sm ?_ ?_)|(refine sp ?_ ?_)|(refine TL.one (by rfl) ?_)|(refine TL.two (by rfl) ?_ ?_)|(refine TL.three (by rfl) ?_ ?_ ?_)|(refine TL.four (by rfl) ?_ ?_ ?_ ?_)))
   all_goals (refine StepL.callW (hx2) rfl rfl rfl rfl rfl (by rfl) (by (first|exact trivial|((with_reducible refine AllP.go ?_);dsimp only [AllP,appP];repeat' (first|refine And.intro ?_ ?_|exact zz|assumption)))) (by rfl) (by rfl) ?_;intro _ _;(repeat' (first|(with_reducible refine AllP.go ?_;(first|exact trivial|exact fun i _=>⟨_,rfl⟩|((try simp only [OS]);repeat' (first|omega|exact fun i _=>⟨_,rfl⟩|refine And.intro ?_ ?_))))|(with_reducible first|exact PanicOk.body|exact rd.panic|refine PanicOk.then' ?_|refine PanicOk.block ?_|refine PanicOk.jump ?_)|(refine TL.done (by rfl) ?_)|(refine TL.auto tysOk rfl ?_ (by rfl) ?_ ?_)|(refine sm ?_ ?_)|(refine sp ?_ ?_)|(refine TL.one (by rfl) ?_)|(refine TL.two (by rfl) ?_ ?_)|(refine TL.three (by rfl) ?_ ?_ ?_)|(refine TL.four (by rfl) ?_ ?_ ?_ ?_))))
   all_goals refine wa ?_
   all_goals refine TE.again' (kk',out++[(sB v,sB v2)],rv2) ⟨hstp.symm.trans g1,hnx,hov2,by simp only [List.length_append,List.length_cons,List.length_nil];omega⟩ (by dsimp only;omega) ?_
   all_goals (refine Ent.of rfl rfl (by rfl) ?_;(try (first|exact trivial|((with_reducible refine AllP.go ?_);dsimp only [AllP,appP];repeat' (first|refine And.intro ?_ ?_|exact zz)))))
   all_goals exact listC_snoc _ rfl (nth2 rfl rfl)
  ·have hf:fs.length=0:=by omega
   have hst:loopR kk out (fs,false)=(out,(fs,false)):=loopR_stop (fun h=>by have:0<fs.length:=List.length_pos_iff.2 h.1;omega)
   rw [hst] at g1
   rw [← g1]
   (refine TE.freezeN 8 (by rfl) (by rfl) ?_)
   (refine TE.only [12,8,7,2] (by rfl) ?_)
   ((refine TE.drawK (fun _=>false) (by rfl) (by rfl) (by rfl) ?_);(repeat' (first|(with_reducible refine AllP.go ?_;(first|exact trivial|exact fun i _=>⟨_,rfl⟩|((try simp only [OS]);repeat' (first|omega|exact fun i _=>⟨_,rfl⟩|refine And.intro ?_ ?_))))|(with_reducible first|exact PanicOk.body|exact rd.panic|refine PanicOk.then' ?_|refine PanicOk.block ?_|refine PanicOk.jump ?_)|(refine TL.done (by rfl) ?_)|(refine TL.auto tysOk rfl ?_ (by rfl) ?_ ?_)|(refine sm ?_ ?_)|(refine sp ?_ ?_)|(refine TL.one (by rfl) ?_)|(refine TL.two (by rfl) ?_ ?_)|(refine TL.three (by rfl) ?_ ?_ ?_)|(refine TL.four (by rfl) ?_ ?_ ?_ ?_))))
   all_goals refine wa ?_
   all_goals exact po
 ·have hst:loopR kk out (fs,true)=(out,(fs,true)):=loopR_bad rfl
  rw [hst] at g1
  rw [← g1]
  (repeat' (first|(with_reducible refine AllP.go ?_;(first|exact trivial|exact fun i _=>⟨_,rfl⟩|((try simp only [OS]);repeat' (first|omega|exact fun i _=>⟨_,rfl⟩|refine And.intro ?_ ?_))))|(refine rg ?_ ?_)|(with_reducible first|refine stp ?_|refine tD rfl ?_)|refine ct ?_|refine cf ?_|((refine TE.gsplit (by rfl) (by rfl) ?_ ?_<;>intro h<;>(try simp only [NS] at h)<;>(try exact xf))<;>(refine rn ?_ ?_))|((first|refine gl ?_ ?_|refine gc ?_ ?_)<;>intro h<;>(try simp only [NS] at h)<;>(try exact xf))))
  all_goals (refine TE.freezeN 8 (by rfl) (by rfl) ?_)
  all_goals (refine TE.only [12,8,7,2] (by rfl) ?_)
  all_goals ((refine TE.drawK (fun _=>false) (by rfl) (by rfl) (by rfl) ?_);(repeat' (first|(with_reducible refine AllP.go ?_;(first|exact trivial|exact fun i _=>⟨_,rfl⟩|((try simp only [OS]);repeat' (first|omega|exact fun i _=>⟨_,rfl⟩|refine And.intro ?_ ?_))))|(with_reducible first|exact PanicOk.body|exact rd.panic|refine PanicOk.then' ?_|refine PanicOk.block ?_|refine PanicOk.jump ?_)|(refine TL.done (by rfl) ?_)|(refine TL.auto tysOk rfl ?_ (by rfl) ?_ ?_)|(refine sm ?_ ?_)|(refine sp ?_ ?_)|(refine TL.one (by rfl) ?_)|(refine TL.two (by rfl) ?_ ?_)|(refine TL.three (by rfl) ?_ ?_ ?_)|(refine TL.four (by rfl) ?_ ?_ ?_ ?_))))
  all_goals refine wa ?_
  all_goals exact po
theorem pa_take (p:List ByteArray) {n:Nat} (h:n≤p.length):LeD 1 n (paC p).cell (p.take n).length (paC (p.take n)).cell:=
 ⟨by rw [List.length_take];omega,fun i j hi hj=>LeX.of_eq (by
  show bsR (p.getD i eS) j=bsR ((p.take n).getD i eS) j
  rw [getD_take hi])⟩
theorem errAt_lt:∀ {r pre:List Nd} {i j:Nat} {e:Int},errAt pre r i=some (j,e)→j<i+r.length
 | [],_,_,_,_,h=>by cases h
 | n :: r,pre,i,j,e,h=>by
  rw [errAt] at h
  simp only [List.length_cons]
  split at h
  ·injection h with h
   injection h with h1 h2
   omega
  ·have:=errAt_lt h
   omega
theorem loneAt_lt {l:List Nd}:∀ {r:List Nd} {i j:Nat},loneAt l r i=some j→j<i+r.length
 | [],_,_,h=>by cases h
 | n :: r,i,j,h=>by
  rw [loneAt] at h
  simp only [List.length_cons]
  split at h
  ·injection h with h
   omega
  ·have:=loneAt_lt h
   omega
theorem checkT_lt (l:List Nd) : -1≤(checkT l).1∧(checkT l).1≤l.length:=by
 unfold checkT
 split
 ·exact ⟨by decide,by dsimp only;omega⟩
 split
 ·exact ⟨by decide,by dsimp only;omega⟩
 split
 ·rename_i h
  have:=errAt_lt h
  exact ⟨by dsimp only;omega,by dsimp only;omega⟩
 split
 ·rename_i h
  have:=loneAt_lt h
  exact ⟨by dsimp only;omega,by dsimp only;omega⟩
 ·exact ⟨by decide,by dsimp only;omega⟩
def followsB (p last:List ByteArray):Bool:=decide (p≠[]∧p.length≤last.length+1∧p.take (p.length - 1)=last.take (p.length - 1))
theorem follows_c (p last:List ByteArray) (hp:p.length≤1000) (hl:last.length≤1000):Con Tryz.prog 79 [.o (.ro 1 p.length (paC p).cell),.o (.ro 1 last.length (paC last).cell)] [] 0 0 U (fun _=>.o (.sb (followsB p last))) G0:=by
 refine con_of Tryz.func79 rfl (by kernel_rfl) Tryz.ntmps79 rfl (by first | exact Nat.zero_le _ | decide) (fun _=>⟨rfl,rfl⟩) fun w S ν=>?_
 have he:=equalS_c (p.take (p.length - 1)) (last.take (p.length - 1)) (by rw [List.length_take];omega) (by rw [List.length_take];omega)
 have hfn:¬ (p.length≠0∧p.length≤last.length+1)→followsB p last=false:=fun h=>decide_eq_false fun k=>h ⟨fun e=>k.1 (List.length_eq_zero_iff.1 e),k.2.1⟩
 have hm1:((p.length:Int) - 1).toNat=p.length - 1:=by omega
 refine wa ?_
 (refine TE.drawK (fun _=>false) (by rfl) (by rfl) (by rfl) ?_)
 (repeat' (first|(with_reducible refine AllP.go ?_;(first|exact trivial|exact fun i _=>⟨_,rfl⟩|((try simp only [OS]);repeat' (first|omega|exact fun i _=>⟨_,rfl⟩|refine And.intro ?_ ?_))))|(refine rg ?_ ?_)|(with_reducible first|refine stp ?_|refine tD rfl ?_)|(with_reducible first|exact PanicOk.body|exact rd.panic|refine PanicOk.then' ?_|refine PanicOk.block ?_|refine PanicOk.jump ?_)|(refine dc ?_)|(refine dn ?_)|(refine TL.done (by rfl) ?_)|(refine TL.auto tysOk rfl ?_ (by rfl) ?_ ?_)|((refine TL.one (by rfl) ?_);first|(refine sm ?_ ?_)|(refine sp ?_ ?_))|(refine sm ?_ ?_)|refine ct ?_|refine cf ?_|((refine TE.gsplit (by rfl) (by rfl) ?_ ?_<;>intro h<;>(try simp only [NS] at h)<;>(try exact xf))<;>(refine rn ?_ ?_))|((first|refine gl ?_ ?_|refine gc ?_ ?_)<;>intro h<;>(try simp only [NS] at h)<;>(try exact xf))))
 ·have hf:followsB p last=decide (p.take (p.length - 1)=last.take (p.length - 1)):=decide_eq_decide.2 ⟨fun k=>k.2.2,fun k=>⟨fun e=>by subst e;simp_all,by omega,k⟩⟩
  rw [hf]
  (refine TL.one (by rfl) ?_)
  refine StepL.callW (he) rfl rfl rfl rfl rfl (by rfl) ?_ (by rfl) (by rfl) ?_
  ·refine AllP.go ?_
   rw [hm1]
   exact ⟨rfl,pa_take _ (by omega),pa_take _ (by omega)⟩
  intro _ _
  refine wc ?_
  exact po
 ·rw [hfn (by omega)]
  exact po
 ·rw [hfn (by omega)]
  exact po
theorem tParse_c (m:Int) (te:TypeId) (pe:Value) (s:Bs) (hl:s.length≤900000):Con Tryz.prog 38 [.o (.c (.string (sB s)))] (glT m te pe) 5 5 U (fun _=>.t [.inl (.ro 8 (parseT s).1.length (ndC (parseT s).1).cell),.inl (.c (.int .i64 (parseT s).2.1)),.inl (.c (.int .i64 (parseT s).2.2))]) (fun _=>glT m te pe):=by
 refine con_of Tryz.func38 rfl (by kernel_rfl) Tryz.ntmps38 rfl (by first | exact Nat.zero_le _ | decide) (fun _=>⟨rfl,rfl⟩) fun w S ν=>?_
 have hln:=Lines_c m te pe s (by omega)
 have hll:=lines_len s
 have hls:=lines_size s
 refine wa ?_
 refine cw (hln) ?_
 intro _ _
 by_cases h1:(linesI s).2≠0
 ·rw [show parseT s=([],0,(linesI s).2) from if_pos h1]
  refine wb ?_
  exact po
 have hE:parseT s=match rowsP 0 [] [] (linesI s).1 with
  | .inr k=>([],(k:Int),6)
  | .inl t=>if (checkT t).2≠0 then ([],(checkT t).1+1,(checkT t).2) else (t,0,0):=if_neg h1
 have h1:=Decidable.not_not.1 h1
 obtain ⟨L,hL⟩:∃ L,L=(linesI s).1:=⟨_,rfl⟩
 rw [← hL] at hE hll hls⊢
 refine wb ?_
 refine TE.nilOwn 2 53 8 (by rfl) ?_
 (refine TE.only [24,23,22,6,2] (by rfl) ?_)
 have hsp:∀ x:Bs,readS x=none∧(readK (rd0 x)).2.2=false∨∃ n p,readS x=some (n,p)∧readK (rd0 x)=(n,p,true):=fun x=>by
  have h:=readK_spec (splitI x).1 (!decide ((splitI x).2=0)) (fun e=>split_err (by simpa using e))
  cases hr:readS x with
  | none=>
   rw [show readF (splitI x).1=none from hr] at h
   exact .inl ⟨rfl,h.1⟩
  | some y=>
   rw [show readF (splitI x).1=some y from hr] at h
   exact .inr ⟨y.1,y.2,rfl,h.2 y rfl⟩
 refine TE.loopG (fun q:Nat×List ByteArray×List Nd=>RowsAt L q.1 q.2.1 q.2.2∧pcheckE q.2.1=0) (fun q=>[(24,.o (.c (.int .i64 q.1))),(6,.o (.ro 1 q.2.1.length (paC q.2.1).cell)),(2,.o (.own 5))]) [5] (fun q=>[.own 5 53 8 (ndC q.2.2)]) (fun q=>L.length - q.1) (0,[],[]) (by rfl) ⟨rows_start L,by decide⟩ ?_ ?_
 ·(refine Ent.of rfl rfl (by rfl) ?_;(try (first|exact trivial|((with_reducible refine AllP.go ?_);dsimp only [AllP,appP];repeat' (first|refine And.intro ?_ ?_|exact zz)))))
  exact LeDC.nil rfl rfl
 rintro ⟨i,last,t⟩ ⟨g,gp⟩
 have g1:i≤L.length:=g.le
 have g2:t.length=i:=g.len
 have g0:i=0→last=[]:=g.start
 dsimp only at gp
 by_cases hlt:i<L.length
 ·have hsz:=hls _ (getD_mem (l:=L) (d:=[]) hlt)
  have hrd:=read_c m te pe (L.getD i []) (by omega)
  have hgp:=pcheck_iff.1 gp
  refine wa ?_
  refine cw (hrd) ?_
  intro _ _
  rcases hsp (L.getD i []) with ⟨s1,s2⟩ | ⟨n,p,s1,s2⟩
  ·have hR:=rows_bad g hlt (rowP_none s1)
   rw [hR] at hE
   dsimp only at hE
   rw [hE,s2]
   refine wb ?_
   exact po
  ·have hrs:=rowP_some (i:=i) (last:=last) s1
   have hfi:=read_fine s1
   have hfp:=pcheck_iff.1 hfi.2.2.2.2
   rw [s2]
   rcases Nat.eq_zero_or_pos i with h0 | h0
   ·rw [if_pos h0] at hrs
    by_cases hpe:p=[]
    ·have hpl:p.length=0:=by rw [hpe];rfl
     rw [if_pos hpe] at hrs
     have hmo:=rows_more g hlt hrs
     refine wb ?_
     refine TE.again' (i+1,p,t++[n]) ⟨hmo,hfi.2.2.2.2⟩ (by dsimp only;omega) ?_
     (refine Ent.of rfl rfl (by rfl) ?_;(try (first|exact trivial|((with_reducible refine AllP.go ?_);dsimp only [AllP,appP];repeat' (first|refine And.intro ?_ ?_|exact zz)))))
     exact listC_snoc _ rfl (nd_row _)
    ·have hpl:0<p.length:=List.length_pos_iff.2 hpe
     rw [if_neg hpe] at hrs
     have hR:=rows_bad g hlt hrs
     rw [hR] at hE
     dsimp only at hE
     rw [hE]
     refine wb ?_
     exact po
   ·rw [if_neg (by omega)] at hrs
    have hfo:=follows_c p last (by omega) (by omega)
    by_cases hfb:followsB p last=true
    ·have hk:p≠[]∧p.length≤last.length+1∧p.take (p.length - 1)=last.take (p.length - 1):=of_decide_eq_true hfb
     have hpl:0<p.length:=List.length_pos_iff.2 hk.1
     rw [if_neg (fun e=>e.elim hk.1 (fun e=>e.elim (fun e=>by omega) (fun e=>e hk.2.2)))] at hrs
     have hmo:=rows_more g hlt hrs
     rw [hfb] at hfo
     refine wb ?_
     refine cw (hfo) ?_
     intro _ _
     refine wb ?_
     have hm1:((p.length:Int) - 1).toNat=p.length - 1:=by omega
     (refine TE.only [24,23,22,14,13,12,11,10,9,8,7,6,2] (by rfl) ?_)
     refine wg ?_
     all_goals refine wa ?_
     all_goals refine TE.again' (i+1,p,t++[{ n with depth:=(p.length:Int),name:=p.getD (p.length - 1) eS }]) ⟨hmo,hfi.2.2.2.2⟩ (by dsimp only;omega) ?_
     all_goals (refine Ent.of rfl rfl (by rfl) ?_;(try (first|exact trivial|((with_reducible refine AllP.go ?_);dsimp only [AllP,appP];repeat' (first|refine And.intro ?_ ?_|exact zz)))))
     all_goals exact listC_snoc _ rfl (by rw [hm1];exact nd_row { n with depth:=(p.length:Int),name:=p.getD (p.length - 1) eS })
    ·have hk:¬ (p≠[]∧p.length≤last.length+1∧p.take (p.length - 1)=last.take (p.length - 1)):=fun e=>hfb (decide_eq_true e)
     rw [if_pos (Decidable.byContradiction fun e=>hk ⟨fun h=>e (.inl h),Nat.le_of_not_lt fun h=>e (.inr (.inl h)),Decidable.byContradiction fun h=>e (.inr (.inr h))⟩)] at hrs
     have hR:=rows_bad g hlt hrs
     rw [hR] at hE
     dsimp only at hE
     rw [Bool.not_eq_true] at hfb
     rw [hfb] at hfo
     rw [hE]
     refine wb ?_
     refine cw (hfo) ?_
     intro _ _
     refine wb ?_
     exact po
 ·obtain rfl:i=L.length:=by omega
  have hR:=rows_end g (Nat.le_refl _)
  rw [hR] at hE
  dsimp only at hE
  obtain ⟨hfa,hfl⟩:=rows_fine (fun n h=>by cases h) hR
  have hok:∀ x∈t,okN x:=fun x hx=>by have:=hfa x hx;exact ⟨by have:=this.1;omega,by have:=this.2.1;omega,by have:=this.2.2;omega⟩
  have hcl:=checkT_lt t
  refine wa ?_
  (refine TE.freezeN 5 (by rfl) (by rfl) ?_)
  refine cw (check_c t (by omega) hok) ?_
  intro _ _
  by_cases h2:(checkT t).2≠0
  ·rw [if_pos h2] at hE
   rw [hE]
   refine wb ?_
   exact po
  ·rw [if_neg h2] at hE
   rw [hE]
   refine wb ?_
   exact po
end Go.Proofs.YtalmoocpebhoiaaGreatDoor.Am
