/- Texts of this claim, joined. -/
import Derived.Test.YtalmoocpebhoiaaGreatDoorPk3
import Derived.Test.YtalmoocpebhoiaaGreatDoorPk4
import Derived.Test.YtalmoocpebhoiaaGreatDoorPk5
import Derived.Shelf.Strings.OnBuilder
set_option linter.unusedSimpArgs false
set_option linter.unusedVariables false
set_option maxRecDepth 20000
set_option maxHeartbeats 8000000
namespace Go.Proofs.YtalmoocpebhoiaaGreatDoor.Am
open Go.RowKit Lw Wo
theorem dig_ascii:∀ (j:Nat) b,digL[j]? = some b→b.toNat<128:=by
 intro j b h
 have:=List.mem_of_getElem? h
 exact (by decide:∀ b∈digL,b.toNat<128) b this
theorem str_nil (l:Bs):(sB l=(ByteArray.mk #[]))↔l=[]:=sB_inj (b:=[])
theorem trim_dig (l:Bs):decide (sB (Lib.trimS l digL)=ByteArray.mk #[])=l.all digC:=by
 have:(l.all (digL.contains ·))=l.all digC:=by congr 1;funext c;exact dig_in c
 rw [← this]
 by_cases h:l.all (digL.contains ·)=true
 ·rw [h];exact decide_eq_true ((str_nil _).2 ((trim_nil l digL).2 h))
 ·rw [Bool.not_eq_true] at h
  rw [h];exact decide_eq_false fun e=>by
   have:=(trim_nil l digL).1 ((str_nil _).1 e)
   rw [h] at this;cases this
theorem dig_no {t:Bs} (h:¬ (sB (Lib.trimS t digL)).size=0):t.all digC=false:=by
 rw [← trim_dig]
 exact decide_eq_false fun e=>h (by rw [e];rfl)
theorem dig_yes {t:Bs} (h:(sB (Lib.trimS t digL)).size=0):t.all digC=true:=by
 rw [← trim_dig]
 rw [sB_size] at h
 exact decide_eq_true ((str_nil _).2 (List.length_eq_zero_iff.1 h))
theorem n48 {t:Bs} (h:¬ ((t.getD (Int.toNat 0) 0).toNat:Int)=48):t.getD 0 0≠48:=fun e=>h (by
 show ((t.getD 0 0).toNat:Int)=48
 rw [e];rfl)
theorem y48 {t:Bs} (h:((t.getD (Int.toNat 0) 0).toNat:Int)=48):t.getD 0 0=48:=UInt8.toNat_inj.1 (by
 have h:((t.getD 0 0).toNat:Int)=48:=h
 rw [show (48:UInt8).toNat=48 from rfl];omega)
theorem isDec_c (l:Bs) (hl:l.length≤1000000):Con Tryz.prog 155 [.o (.c (.string (sB l)))] [] 0 0 U (fun _=>.o (.sb (decI l))) G0:=by
 refine con_of Tryz.func155 rfl (by kernel_rfl) Tryz.ntmps155 rfl (by first | exact Nat.zero_le _ | decide) (fun _=>⟨rfl,rfl⟩) fun w S ν=>?_
 have hz:=sB_size l
 refine wc ?_
 refine cw (tpre_c l [45]) ?_
 intro _ _
 rw [pre_body]
 obtain ⟨t,ht⟩:∃ t,t=bodyI l:=⟨_,rfl⟩
 have hd:decI l=(!t.isEmpty && t.all digC && (decide (t.getD 0 0≠48) || decide (l=[48]))):=by rw [ht];rfl
 have htl:t.length≤l.length:=by
  rw [ht];unfold bodyI;split
  ·simp
  ·exact Nat.le_refl _
 rw [← ht]
 have hz2:=sB_size t
 ((refine rn ?_ ?_);(repeat' (first|(with_reducible refine AllP.go ?_;first|exact og|((try simp only [OS]);repeat' (first|exact oj|refine And.intro ?_ ?_)))|(refine rg ?_ ?_)|(with_reducible first|refine stp ?_|refine tD rfl ?_)|(with_reducible first|exact PanicOk.body|exact rd.panic|refine PanicOk.then' ?_|refine PanicOk.block ?_|refine PanicOk.jump ?_)|(refine dc ?_)|(refine dn ?_)|(refine TL.done (by rfl) ?_)|(refine TL.auto tysOk rfl ?_ (by rfl) ?_ ?_)|((refine TL.one (by rfl) ?_);first|(refine sm ?_ ?_)|(refine sp ?_ ?_))|(refine sm ?_ ?_)|refine ct ?_|refine cf ?_|((first|refine gs ?_ ?_|refine gl ?_ ?_|refine gc ?_ ?_)<;>intro h<;>(try simp only [NS] at h)<;>(try exact xf)<;>(try refine rn ?_ ?_)))))
 ·have:t=[]:=List.length_eq_zero_iff.1 (by omega)
  rw [hd,this]
  exact po
 ·refine cw (trim_c t digL (by omega) (by decide) dig_ascii) ?_
  intro _ _
  have hne:t.isEmpty=false:=by
   cases t with
   | nil=>exact absurd hz2 (by omega)
   | cons c r=>rfl
  ((refine rn ?_ ?_);(repeat' (first|(with_reducible refine AllP.go ?_;first|exact og|((try simp only [OS]);repeat' (first|exact oj|refine And.intro ?_ ?_)))|(refine rg ?_ ?_)|(with_reducible first|refine stp ?_|refine tD rfl ?_)|(with_reducible first|exact PanicOk.body|exact rd.panic|refine PanicOk.then' ?_|refine PanicOk.block ?_|refine PanicOk.jump ?_)|(refine dc ?_)|(refine dn ?_)|(refine TL.done (by rfl) ?_)|(refine TL.auto tysOk rfl ?_ (by rfl) ?_ ?_)|((refine TL.one (by rfl) ?_);first|(refine sm ?_ ?_)|(refine sp ?_ ?_))|(refine sm ?_ ?_)|refine ct ?_|refine cf ?_|((first|refine gs ?_ ?_|refine gl ?_ ?_|refine gc ?_ ?_)<;>intro h<;>(try simp only [NS] at h)<;>(try exact xf)<;>(try refine rn ?_ ?_)))))
  ·rw [hd,dig_no (by assumption)]
   simp only [Bool.and_false,Bool.false_and]
   exact po
  ·rw [hd,hne,dig_yes (by assumption),decide_eq_true (show t.getD 0 0≠48 from fun e=>n48 (by assumption) e)]
   exact po
  ·rw [hd,hne,dig_yes (by assumption),decide_eq_false (show ¬ t.getD 0 0≠48 from fun e=>e (y48 (by assumption))),show decide (l=[48])=decide (sB l=ByteArray.mk #[48]) from decide_eq_decide.2 (sB_inj (b:=[48])).symm]
   exact po
theorem Int_c (m:Int) (te:TypeId) (pe:Value) (l:Bs) (low high:Int) (hl:l.length≤1000000):Con Tryz.prog 138 [.o (.c (.string (sB l))),.o (.c (.int .i64 low)),.o (.c (.int .i64 high))] (glC m te pe) 4 4 U (fun _=>.t [.inl (.c (.int .i64 (intI l low high).1)),.inl (.c (.int .i64 (intI l low high).2))]) (fun _=>glC m te pe):=by
 refine con_of Tryz.func138 rfl (by kernel_rfl) Tryz.ntmps138 rfl (by first | exact Nat.zero_le _ | decide) (fun _=>⟨rfl,rfl⟩) fun w S ν=>?_
 obtain ⟨R,hR⟩:∃ R,R=intI l low high:=⟨_,rfl⟩
 obtain ⟨D,hD⟩:∃ D,D=decI l:=⟨_,rfl⟩
 obtain ⟨V,hV⟩:∃ V,V=valI l:=⟨_,rfl⟩
 obtain ⟨Z,hZ⟩:∃ Z,Z=Lib.intSat 64 l:=⟨_,rfl⟩
 have c1:=isDec_c l hl
 have hp:D=true→Lib.parseIntB 64 l=if V < -9223372036854775808∨9223372036854775807<V then .range else .ok V:=fun h=>by rw [hV];exact parse_dec (hD ▸ h)
 have hi:R=if D=false then (0,6) else if V < -9223372036854775808∨9223372036854775807<V∨V<low∨high<V then (0,7) else (V,0):=by rw [hR,hD,hV];rfl
 have c2:=fun h=>parseR_c m te pe l hl h
 have c3:=fun h=>parseOk_c m te pe l hl V h
 rw [← hD] at c1
 rw [← hR]
 rw [← hZ] at c2
 generalize Lib.parseIntB 64 l=PP at *
 clear hR hD hV hZ
 refine wc ?_
 refine cw (c1) ?_
 intro _ _
 ((refine rn ?_ ?_);(repeat' (first|(with_reducible refine AllP.go ?_;first|exact og|((try simp only [OS]);repeat' (first|exact oj|refine And.intro ?_ ?_)))|(refine rg ?_ ?_)|(with_reducible first|refine stp ?_|refine tD rfl ?_)|(with_reducible first|exact PanicOk.body|exact rd.panic|refine PanicOk.then' ?_|refine PanicOk.block ?_|refine PanicOk.jump ?_)|(refine dc ?_)|(refine dn ?_)|(refine TL.done (by rfl) ?_)|(refine TL.auto tysOk rfl ?_ (by rfl) ?_ ?_)|((refine TL.one (by rfl) ?_);first|(refine sm ?_ ?_)|(refine sp ?_ ?_))|(refine sm ?_ ?_)|refine ct ?_|refine cf ?_|((first|refine gs ?_ ?_|refine gl ?_ ?_|refine gc ?_ ?_)<;>intro h<;>(try simp only [NS] at h)<;>(try exact xf)<;>(try refine rn ?_ ?_)))))
 ·have he:R=(0,6):=by rw [hi,if_pos (by assumption)]
  rw [he]
  (refine TE.ret' io rfl tysOk (()) ?_ rfl (by rfl) ?_;all_goals (try (first|exact trivial|((with_reducible refine AllP.go ?_);dsimp only [AllP,appP];repeat' (first|refine And.intro ?_ ?_|exact zz)))))
 ·have hp:=hp (by assumption)
  rw [if_neg (by simp_all)] at hi
  by_cases hr:V < -9223372036854775808∨9223372036854775807<V
  ·rw [if_pos hr] at hp
   rw [hi,if_pos (by omega)]
   refine cw (c2 hp) ?_
   rintro v ⟨tp,p,rfl⟩
   ((refine rn ?_ ?_);try (with_reducible refine AllP.go ?_;first|exact og|((try simp only [OS]);repeat' (first|exact oj|refine And.intro ?_ ?_))))
   (repeat (with_reducible first|refine stp ?_|refine tD rfl ?_))
   ((refine rg ?_ ?_);try (with_reducible refine AllP.go ?_;first|exact og|((try simp only [OS]);repeat' (first|exact oj|refine And.intro ?_ ?_))))
   (refine TE.step rfl rfl rfl (fun _ h=>nomatch h) (m_ifNil (b:=false) rfl (by first | exact .inl rfl | exact .inr rfl) (by kernel_rfl) rfl (.inr ⟨⟨_,_,rfl⟩,rfl⟩)) ?_;rintro _ rfl)
   refine wd ?_
   (refine TE.ret' io rfl tysOk (()) ?_ rfl (by rfl) ?_;all_goals (try (first|exact trivial|((with_reducible refine AllP.go ?_);dsimp only [AllP,appP];repeat' (first|refine And.intro ?_ ?_|exact zz)))))
  ·rw [if_neg hr] at hp
   refine cw (c3 hp) ?_
   intro _ _
   ((refine rn ?_ ?_);try (with_reducible refine AllP.go ?_;first|exact og|((try simp only [OS]);repeat' (first|exact oj|refine And.intro ?_ ?_))))
   (repeat (with_reducible first|refine stp ?_|refine tD rfl ?_))
   ((refine rg ?_ ?_);try (with_reducible refine AllP.go ?_;first|exact og|((try simp only [OS]);repeat' (first|exact oj|refine And.intro ?_ ?_))))
   (refine TE.step rfl rfl rfl (fun _ h=>nomatch h) (m_ifNil (b:=true) rfl (by first | exact .inl rfl | exact .inr rfl) (by kernel_rfl) rfl (.inl ⟨rfl,rfl⟩)) ?_;rintro _ rfl)
   ((refine rn ?_ ?_);(repeat' (first|(with_reducible refine AllP.go ?_;first|exact og|((try simp only [OS]);repeat' (first|exact oj|refine And.intro ?_ ?_)))|(refine rg ?_ ?_)|(with_reducible first|refine stp ?_|refine tD rfl ?_)|(with_reducible first|exact PanicOk.body|exact rd.panic|refine PanicOk.then' ?_|refine PanicOk.block ?_|refine PanicOk.jump ?_)|(refine dc ?_)|(refine dn ?_)|(refine TL.done (by rfl) ?_)|(refine TL.auto tysOk rfl ?_ (by rfl) ?_ ?_)|((refine TL.one (by rfl) ?_);first|(refine sm ?_ ?_)|(refine sp ?_ ?_))|(refine sm ?_ ?_)|refine ct ?_|refine cf ?_|((first|refine gs ?_ ?_|refine gl ?_ ?_|refine gc ?_ ?_)<;>intro h<;>(try simp only [NS] at h)<;>(try exact xf)<;>(try refine rn ?_ ?_)))))
   ·rw [hi,if_pos (by omega)];(refine TE.ret' io rfl tysOk (()) ?_ rfl (by rfl) ?_;all_goals (try (first|exact trivial|((with_reducible refine AllP.go ?_);dsimp only [AllP,appP];repeat' (first|refine And.intro ?_ ?_|exact zz)))))
   ·rw [hi,if_pos (by omega)];(refine TE.ret' io rfl tysOk (()) ?_ rfl (by rfl) ?_;all_goals (try (first|exact trivial|((with_reducible refine AllP.go ?_);dsimp only [AllP,appP];repeat' (first|refine And.intro ?_ ?_|exact zz)))))
   ·rw [hi,if_neg (by omega)];(refine TE.ret' io rfl tysOk (()) ?_ rfl (by rfl) ?_;all_goals (try (first|exact trivial|((with_reducible refine AllP.go ?_);dsimp only [AllP,appP];repeat' (first|refine And.intro ?_ ?_|exact zz)))))
theorem Dig_c (m:Int) (te:TypeId) (pe:Value) (n:Int) (hn : -9223372036854775808≤n∧n≤9223372036854775807):Con Tryz.prog 100 [.o (.c (.int .i64 n))] (glC m te pe) 4 4 U (fun _=>.o (.c (.string (sB (Lib.itoa n))))) (fun _=>glC m te pe):=by
 refine con_of Tryz.func100 rfl (by kernel_rfl) Tryz.ntmps100 rfl (by first | exact Nat.zero_le _ | decide) (fun _=>⟨rfl,rfl⟩) fun w S ν=>?_
 refine wc ?_
 refine cw (fmt_c m te pe n hn) ?_
 intro _ _
 refine wd ?_
 (refine TE.ret' io rfl tysOk (()) ?_ rfl (by rfl) ?_;all_goals (try (first|exact trivial|((with_reducible refine AllP.go ?_);dsimp only [AllP,appP];repeat' (first|refine And.intro ?_ ?_|exact zz)))))
theorem dig1_c (c:UInt8):Con Tryz.prog 158 [.o (.c (.int .u8 c.toNat))] [] 0 0 U (fun _=>.o (.sb (digC c))) G0:=by
 refine con_of Tryz.func158 rfl (by kernel_rfl) Tryz.ntmps158 rfl (by first | exact Nat.zero_le _ | decide) (fun _=>⟨rfl,rfl⟩) fun w S ν=>?_
 (repeat' (first|(with_reducible refine AllP.go ?_;first|exact og|((try simp only [OS]);repeat' (first|exact oj|refine And.intro ?_ ?_)))|(refine rg ?_ ?_)|(with_reducible first|refine stp ?_|refine tD rfl ?_)|(with_reducible first|exact PanicOk.body|exact rd.panic|refine PanicOk.then' ?_|refine PanicOk.block ?_|refine PanicOk.jump ?_)|(refine dc ?_)|(refine dn ?_)|(refine TL.done (by rfl) ?_)|(refine TL.auto tysOk rfl ?_ (by rfl) ?_ ?_)|((refine TL.one (by rfl) ?_);first|(refine sm ?_ ?_)|(refine sp ?_ ?_))|(refine sm ?_ ?_)|refine ct ?_|refine cf ?_|((first|refine gs ?_ ?_|refine gl ?_ ?_|refine gc ?_ ?_)<;>intro h<;>(try simp only [NS] at h)<;>(try exact xf)<;>(try refine rn ?_ ?_))))
 ·rw [show digC c=decide ((c.toNat:Int)≤57) from decide_eq_decide.2 ⟨fun h=>by omega,fun h=>by omega⟩]
  exact po
 ·rw [show digC c=false from decide_eq_false (by omega)]
  exact po
theorem all_step {p:UInt8→Bool} {l:Bs} {q:Nat} (h:q<l.length):(l.take (q+1)).all p=((l.take q).all p && p (l.getD q 0)):=by
 rw [List.take_add_one,List.getElem?_eq_getElem h,List.all_append,List.getD_eq_getElem?_getD,List.getElem?_eq_getElem h]
 simp
theorem all_no {p:UInt8→Bool} {l:Bs} {q:Nat} (h:q<l.length) (hp:p (l.getD q 0)=false):l.all p=false:=by
 rw [Bool.eq_false_iff]
 intro h2
 have h3:=List.all_eq_true.1 h2 l[q] (List.getElem_mem h)
 rw [List.getD_eq_getElem?_getD,List.getElem?_eq_getElem h] at hp
 rw [show p l[q]=false from hp] at h3
 cases h3
def rbodyI (l:Bs):Bs:=if 1<l.length∧(l.getD 0 0).toNat=45∧(l.getD 1 0).toNat≠48 then l.drop 1 else l
theorem rdec_eq (l:Bs):(decide (¬ ((rbodyI l).length=0∨(1<(rbodyI l).length∧((rbodyI l).getD 0 0).toNat=48))) && (rbodyI l).all digC)=decI l:=by
 have h48:∀ c:UInt8,c.toNat=48↔c=48:=fun c=>⟨fun h=>UInt8.toNat_inj.1 h,fun h=>by rw [h];rfl⟩
 have h45:∀ c:UInt8,c.toNat=45↔c=45:=fun c=>⟨fun h=>UInt8.toNat_inj.1 h,fun h=>by rw [h];rfl⟩
 unfold rbodyI decI bodyI
 match l with
 | []=>rfl
 | [c]=>
  by_cases hc:c=45
  ·subst hc;rfl
  ·simp [hc]
 | c :: d :: r=>
  by_cases hc:c=45
  ·subst hc
   by_cases hd:d=48
   ·subst hd;simp [digC]
   ·have:¬ d.toNat=48:=fun e=>hd ((h48 d).1 e)
    simp [this,hd]
  ·have h1:¬ c.toNat=45:=fun e=>hc ((h45 c).1 e)
   by_cases hd:c=48
   ·subst hd;simp
   ·have:¬ c.toNat=48:=fun e=>hd ((h48 c).1 e)
    simp [h1,this,hc,hd]
theorem rDec_c (l:Bs) (hl:l.length≤1000000):Con Tryz.prog 140 [.o (.c (.string (sB l)))] [] 0 0 U (fun _=>.o (.sb (decI l))) G0:=by
 refine con_of Tryz.func140 rfl (by kernel_rfl) Tryz.ntmps140 rfl (by first | exact Nat.zero_le _ | decide) (fun _=>⟨rfl,rfl⟩) fun w S ν=>?_
 have hz:=sB_size l
 obtain ⟨t,ht⟩:∃ t,t=rbodyI l:=⟨_,rfl⟩
 have hd:=rdec_eq l
 rw [← ht] at hd
 have htl:t.length≤l.length:=by
  rw [ht];unfold rbodyI;split
  ·simp
  ·exact Nat.le_refl _
 (refine TE.seq ?_;(refine TE.rgo tysOk rfl (by rfl) (by (first | exact trivial | exact fun i _=>⟨_,rfl⟩ | ((try simp only [OS]);repeat' (first | omega | exact fun i _=>⟨_,rfl⟩ | refine And.intro ?_ ?_)))) ?_);refine TE.done ?_;refine TE.thenN ?_)
 refine TE.seqM (ι:=Unit) (fun _=>True) (fun _=>⟨[(0,.o (.c (.string (sB t)))),(2,.o (.c (.bool false)))],[],0⟩) ?_ fun _ _=>?_
 ·have r1:1<l.length→((l.getD (Int.toNat 0) 0).toNat:Int)=45→¬ ((l.getD (Int.toNat 1) 0).toNat:Int)=48→(sB l).extract (Int.toNat 1) ((sB l).size:Int).toNat=sB t:=fun h1 h2 h3=>by
   have h2:((l.getD 0 0).toNat:Int)=45:=h2
   have h3:¬ ((l.getD 1 0).toNat:Int)=48:=h3
   rw [ht,rbodyI,if_pos ⟨h1,by omega,by omega⟩,show ((sB l).size:Int).toNat=(sB l).size from rfl,sB_ext,sB_size]
   exact congrArg sB (List.take_of_length_le (by simp))
  have r2:¬ (1<l.length∧((l.getD (Int.toNat 0) 0).toNat:Int)=45∧¬ ((l.getD (Int.toNat 1) 0).toNat:Int)=48)→sB l=sB t:=fun h=>by
   have h:¬ (1<l.length∧((l.getD 0 0).toNat:Int)=45∧¬ ((l.getD 1 0).toNat:Int)=48):=h
   rw [ht,rbodyI,if_neg (by omega)]
  (repeat' (first|(with_reducible refine AllP.go ?_;first|exact og|((try simp only [OS]);repeat' (first|exact oj|refine And.intro ?_ ?_)))|(refine rg ?_ ?_)|(with_reducible first|refine stp ?_|refine tD rfl ?_)|(with_reducible first|exact PanicOk.body|exact rd.panic|refine PanicOk.then' ?_|refine PanicOk.block ?_|refine PanicOk.jump ?_)|(refine dc ?_)|(refine dn ?_)|(refine TL.done (by rfl) ?_)|(refine TL.auto tysOk rfl ?_ (by rfl) ?_ ?_)|((refine TL.one (by rfl) ?_);first|(refine sm ?_ ?_)|(refine sp ?_ ?_))|(refine sm ?_ ?_)|refine ct ?_|refine cf ?_|((first|refine gs ?_ ?_|refine gl ?_ ?_|refine gc ?_ ?_)<;>intro h<;>(try simp only [NS] at h)<;>(try exact xf)<;>(try refine rn ?_ ?_))))
  ·rw [r1 (by omega) (by assumption) (by assumption)];(refine TE.at () trivial ?_;(refine Ent.of rfl rfl (by rfl) ?_;(try (first|exact trivial|((with_reducible refine AllP.go ?_);dsimp only [AllP,appP];repeat' (first|refine And.intro ?_ ?_|exact zz))))))
  ·rw [r2 (by omega)];(refine TE.at () trivial ?_;(refine Ent.of rfl rfl (by rfl) ?_;(try (first|exact trivial|((with_reducible refine AllP.go ?_);dsimp only [AllP,appP];repeat' (first|refine And.intro ?_ ?_|exact zz))))))
  ·rw [r2 (by omega)];(refine TE.at () trivial ?_;(refine Ent.of rfl rfl (by rfl) ?_;(try (first|exact trivial|((with_reducible refine AllP.go ?_);dsimp only [AllP,appP];repeat' (first|refine And.intro ?_ ?_|exact zz))))))
  ·rw [r2 (by omega)];(refine TE.at () trivial ?_;(refine Ent.of rfl rfl (by rfl) ?_;(try (first|exact trivial|((with_reducible refine AllP.go ?_);dsimp only [AllP,appP];repeat' (first|refine And.intro ?_ ?_|exact zz))))))
 have hz2:=sB_size t
 have h0:t.getD (Int.toNat 0) 0=t.getD 0 0:=rfl
 have hlast:¬ (t.length=0∨(1<t.length∧(t.getD 0 0).toNat=48))→decI l=t.all digC:=fun h=>by rw [← hd,decide_eq_true h,Bool.true_and]
 have hfirst:(t.length=0∨(1<t.length∧(t.getD 0 0).toNat=48))→decI l=false:=fun h=>by rw [← hd,decide_eq_false (not_not_intro h),Bool.false_and]
 refine TE.seqM (ι:=Unit) (fun _=>decI l=t.all digC) (fun _=>⟨[(0,.o (.c (.string (sB t))))],[],0⟩) ?_ fun _ hx=>?_
 ·(repeat' (first|(with_reducible refine AllP.go ?_;first|exact og|((try simp only [OS]);repeat' (first|exact oj|refine And.intro ?_ ?_)))|(refine rg ?_ ?_)|(with_reducible first|refine stp ?_|refine tD rfl ?_)|(with_reducible first|exact PanicOk.body|exact rd.panic|refine PanicOk.then' ?_|refine PanicOk.block ?_|refine PanicOk.jump ?_)|(refine dc ?_)|(refine dn ?_)|(refine TL.done (by rfl) ?_)|(refine TL.auto tysOk rfl ?_ (by rfl) ?_ ?_)|((refine TL.one (by rfl) ?_);first|(refine sm ?_ ?_)|(refine sp ?_ ?_))|(refine sm ?_ ?_)|refine ct ?_|refine cf ?_|((first|refine gs ?_ ?_|refine gl ?_ ?_|refine gc ?_ ?_)<;>intro h<;>(try simp only [NS] at h)<;>(try exact xf)<;>(try refine rn ?_ ?_))))
  ·rw [hfirst (.inl (by omega))];(refine TE.ret' io rfl tysOk (()) ?_ rfl (by rfl) ?_;all_goals (try (first|exact trivial|((with_reducible refine AllP.go ?_);dsimp only [AllP,appP];repeat' (first|refine And.intro ?_ ?_|exact zz)))))
  ·rw [hfirst (.inr (by rw [← h0];omega))];(refine TE.ret' io rfl tysOk (()) ?_ rfl (by rfl) ?_;all_goals (try (first|exact trivial|((with_reducible refine AllP.go ?_);dsimp only [AllP,appP];repeat' (first|refine And.intro ?_ ?_|exact zz)))))
  ·refine TE.at () (hlast (by rw [← h0];omega)) ?_
   exact ee
  ·refine TE.at () (hlast (by omega)) ?_
   exact ee
 refine wc ?_
 refine TE.loopG (fun q:Nat=>q≤t.length∧(t.take q).all digC=true) (fun q=>[(3,.o (.c (.int .i64 q)))]) [] (fun _=>[]) (fun q=>t.length - q) 0 (by rfl) ⟨Nat.zero_le _,rfl⟩ ?_ ?_
 ·exact ee
 rintro q ⟨hq,hqa⟩
 have hst:=fun h=>all_step (p:=digC) (l:=t) (q:=q) h
 have hno:=fun h=>all_no (p:=digC) (l:=t) (q:=q) h
 (repeat' (first|(with_reducible refine AllP.go ?_;first|exact og|((try simp only [OS]);repeat' (first|exact oj|refine And.intro ?_ ?_)))|(refine rg ?_ ?_)|(with_reducible first|refine stp ?_|refine tD rfl ?_)|(with_reducible first|exact PanicOk.body|exact rd.panic|refine PanicOk.then' ?_|refine PanicOk.block ?_|refine PanicOk.jump ?_)|(refine dc ?_)|(refine dn ?_)|(refine TL.done (by rfl) ?_)|(refine TL.auto tysOk rfl ?_ (by rfl) ?_ ?_)|((refine TL.one (by rfl) ?_);first|(refine sm ?_ ?_)|(refine sp ?_ ?_))|(refine sm ?_ ?_)|refine ct ?_|refine cf ?_|((first|refine gs ?_ ?_|refine gl ?_ ?_|refine gc ?_ ?_)<;>intro h<;>(try simp only [NS] at h)<;>(try exact xf)<;>(try refine rn ?_ ?_))))
 ·refine cw (dig1_c (t.getD q 0)) ?_
  intro _ _
  ((refine rn ?_ ?_);(repeat' (first|(with_reducible refine AllP.go ?_;first|exact og|((try simp only [OS]);repeat' (first|exact oj|refine And.intro ?_ ?_)))|(refine rg ?_ ?_)|(with_reducible first|refine stp ?_|refine tD rfl ?_)|(with_reducible first|exact PanicOk.body|exact rd.panic|refine PanicOk.then' ?_|refine PanicOk.block ?_|refine PanicOk.jump ?_)|(refine dc ?_)|(refine dn ?_)|(refine TL.done (by rfl) ?_)|(refine TL.auto tysOk rfl ?_ (by rfl) ?_ ?_)|((refine TL.one (by rfl) ?_);first|(refine sm ?_ ?_)|(refine sp ?_ ?_))|(refine sm ?_ ?_)|refine ct ?_|refine cf ?_|((first|refine gs ?_ ?_|refine gl ?_ ?_|refine gc ?_ ?_)<;>intro h<;>(try simp only [NS] at h)<;>(try exact xf)<;>(try refine rn ?_ ?_)))))
  ·rw [hx,hno (by omega) (decide_eq_false (by omega))];(refine TE.ret' io rfl tysOk (()) ?_ rfl (by rfl) ?_;all_goals (try (first|exact trivial|((with_reducible refine AllP.go ?_);dsimp only [AllP,appP];repeat' (first|refine And.intro ?_ ?_|exact zz)))))
  ·refine TE.again' (q+1) ⟨by omega,by rw [hst (by omega),hqa,show digC (t.getD q 0)=true from decide_eq_true (by omega)];rfl⟩ (by omega) ?_
   exact ee
 ·obtain rfl:q=t.length:=by omega
  rw [List.take_length] at hqa
  rw [hx,hqa]
  exact po
theorem dec_len:∀ (k u:Nat),u<10 ^ (k+1)→(Lib.decDigits u).length≤k+1
 | 0,u,h=>by rw [Lib.decDigits,dif_pos (by simpa using h)];exact Nat.le_refl _
 | k+1,u,h=>by
  rw [Lib.decDigits]
  split
  ·exact Nat.le_add_left _ _
  ·have:=dec_len k (u / 10) (by rw [Nat.pow_succ] at h;omega)
   rw [List.length_append];exact Nat.succ_le_succ this
theorem itoa_len {n:Int} (h : -9223372036854775808≤n∧n≤9223372036854775807):(Lib.itoa n).length≤20:=by
 unfold Lib.itoa
 split
 ·have:=dec_len 18 n.natAbs (by omega)
  rw [List.length_cons];omega
 ·have:=dec_len 18 n.toNat (by omega)
  omega
theorem lit1_sz (z:Int):(ByteArray.mk (ctBytes (0+1) (litC [[DC.c (Value.int IntKind.u8 z)]]).cell).toArray).size=1:=rfl
theorem itoa_small {n:Int} (h:0≤n∧n≤9):Lib.itoa n=[UInt8.ofNat ((48+n) % 256).toNat]:=by
 unfold Lib.itoa
 rw [if_neg (by omega),Lib.decDigits,dif_pos (by omega)]
 congr 2;omega
theorem itoa_neg {n:Int} (h : -9≤n∧n<0):Lib.itoa n=45 :: Lib.itoa (0 - n):=by
 unfold Lib.itoa
 rw [if_pos (by omega),if_neg (by omega),show n.natAbs=(0 - n).toNat by omega]
theorem itoa_pos {n:Int} (h:9<n):Lib.itoa n=Lib.itoa (n / 10)++[UInt8.ofNat ((48+n % 10) % 256).toNat]:=by
 unfold Lib.itoa
 rw [if_neg (by omega),if_neg (by omega),Lib.decDigits,dif_neg (by omega),show n.toNat / 10=(n / 10).toNat by omega]
 congr 3;omega
theorem itoa_low {n:Int} (h:n < -9):Lib.itoa n=Lib.itoa (n.tdiv 10)++[UInt8.ofNat ((48+(0 - n.tmod 10)) % 256).toNat]:=by
 have h1:n.tdiv 10 = -((-n) / 10):=by
  rw [← Int.tdiv_eq_ediv_of_nonneg (by omega),Int.neg_tdiv,Int.neg_neg]
 have h2:n.tmod 10 = -((-n) % 10):=by
  rw [← Int.tmod_eq_emod_of_nonneg (by omega),Int.neg_tmod,Int.neg_neg]
 unfold Lib.itoa
 rw [if_pos (by omega),if_pos (by omega),Lib.decDigits,dif_neg (by omega),show n.natAbs / 10=(n.tdiv 10).natAbs by omega,List.cons_append]
 congr 4;omega
theorem rDig_c:∀ (k:Nat) (n:Int),(0≤n∧2*n.natAbs≤k∨n<0∧2*n.natAbs+1≤k)→(-9223372036854775808≤n∧n≤9223372036854775807)→Con Tryz.prog 105 [.o (.c (.int .i64 n))] [] 0 0 U (fun _=>.o (.c (.string (sB (Lib.itoa n))))) G0:=by
 intro k
 induction k with
 | zero=>
  intro n hk hn
  obtain rfl:n=0:=by omega
  refine con_of Tryz.func105 rfl (by kernel_rfl) Tryz.ntmps105 rfl (by first | exact Nat.zero_le _ | decide) (fun _=>⟨rfl,rfl⟩) fun w S ν=>?_
  (repeat' (first|(with_reducible refine AllP.go ?_;first|exact og|((try simp only [OS]);repeat' (first|exact oj|refine And.intro ?_ ?_)))|(refine rg ?_ ?_)|(with_reducible first|refine stp ?_|refine tD rfl ?_)|(with_reducible first|exact PanicOk.body|exact rd.panic|refine PanicOk.then' ?_|refine PanicOk.block ?_|refine PanicOk.jump ?_)|(refine dc ?_)|(refine dn ?_)|(refine TL.done (by rfl) ?_)|(refine TL.auto tysOk rfl ?_ (by rfl) ?_ ?_)|((refine TL.one (by rfl) ?_);first|(refine sm ?_ ?_)|(refine sp ?_ ?_))|(refine sm ?_ ?_)|refine ct ?_|refine cf ?_|((first|refine gs ?_ ?_|refine gl ?_ ?_|refine gc ?_ ?_)<;>intro h<;>(try simp only [NS] at h)<;>(try exact xf)<;>(try refine rn ?_ ?_))))
  ·exact lit1_ok (by decide)
  (refine TE.ret' io rfl tysOk (()) ?_ rfl (by rfl) ?_;all_goals (try (first|exact trivial|((with_reducible refine AllP.go ?_);dsimp only [AllP,appP];repeat' (first|refine And.intro ?_ ?_|exact zz)))))
  exact congrArg Value.string (congrArg sB (itoa_small (by decide)).symm)
 | succ k ih=>
  intro n hk hn
  by_cases hlow:n < -9
  ·have h2:n.tmod 10 = -((-n) % 10):=by
    rw [← Int.tmod_eq_emod_of_nonneg (by omega),Int.neg_tmod,Int.neg_neg]
   have h1:n.tdiv 10 = -((-n) / 10):=by
    rw [← Int.tdiv_eq_ediv_of_nonneg (by omega),Int.neg_tdiv,Int.neg_neg]
   refine con_of Tryz.func105 rfl (by kernel_rfl) Tryz.ntmps105 rfl (by first | exact Nat.zero_le _ | decide) (fun _=>⟨rfl,rfl⟩) fun w S ν=>?_
   have hln:=itoa_len (n:=n.tdiv 10) (by omega)
   have hls:=sB_size (Lib.itoa (n.tdiv 10))
   (repeat (with_reducible first|refine stp ?_|refine tD rfl ?_))
   ((refine rg ?_ ?_);try (with_reducible refine AllP.go ?_;first|exact og|((try simp only [OS]);repeat' (first|exact oj|refine And.intro ?_ ?_))))
   (repeat (with_reducible first|refine stp ?_|refine tD rfl ?_))
   ((refine rg ?_ ?_);try (with_reducible refine AllP.go ?_;first|exact og|((try simp only [OS]);repeat' (first|exact oj|refine And.intro ?_ ?_))))
   refine TE.gsplit (by rfl) (by rfl) ?_ ?_<;>intro h
   ·exfalso;simp at h;omega
   ((refine rn ?_ ?_);try (with_reducible refine AllP.go ?_;first|exact og|((try simp only [OS]);repeat' (first|exact oj|refine And.intro ?_ ?_))))
   (repeat (with_reducible first|refine stp ?_|refine tD rfl ?_))
   refine TE.cond_split (by rfl) ?_ ?_<;>intro h2
   rotate_left
   ·exfalso;simp at h2;omega
   (repeat (with_reducible first|refine stp ?_|refine tD rfl ?_))
   refine TE.region ?_
   (refine TE.step rfl rfl rfl (fun _ h=>nomatch h) (m_pure tysOk rfl ?_) ?_;rotate_left;rintro _ rfl;rotate_right;(with_reducible refine AllP.go ?_;first|exact og|((try simp only [OS]);repeat' (first|exact oj|refine And.intro ?_ ?_))))
   (refine TE.step rfl rfl rfl (fun _ h=>nomatch h) (m_rem rfl rfl rfl (by decide)) ?_;rintro _ rfl)
   ((refine rn ?_ ?_);try (with_reducible refine AllP.go ?_;first|exact og|((try simp only [OS]);repeat' (first|exact oj|refine And.intro ?_ ?_))))
   (repeat (with_reducible first|refine stp ?_|refine tD rfl ?_))
   ((refine rg ?_ ?_);try (with_reducible refine AllP.go ?_;first|exact og|((try simp only [OS]);repeat' (first|exact oj|refine And.intro ?_ ?_))))
   (repeat (with_reducible first|refine stp ?_|refine tD rfl ?_))
   refine TE.mid (ι:=Unit) (fun _=>True) (fun _=>⟨[(0,.o (.c (.int .i64 n))),(3,.o (.c (.int .i64 (0 - n.tmod 10))))],[],0⟩) ?_ fun _ _=>?_
   ·(repeat' (first|(with_reducible refine AllP.go ?_;first|exact og|((try simp only [OS]);repeat' (first|exact oj|refine And.intro ?_ ?_)))|(refine rg ?_ ?_)|(with_reducible first|refine stp ?_|refine tD rfl ?_)|(with_reducible first|exact PanicOk.body|exact rd.panic|refine PanicOk.then' ?_|refine PanicOk.block ?_|refine PanicOk.jump ?_)|(refine dc ?_)|(refine dn ?_)|(refine TL.done (by rfl) ?_)|(refine TL.auto tysOk rfl ?_ (by rfl) ?_ ?_)|((refine TL.one (by rfl) ?_);first|(refine sm ?_ ?_)|(refine sp ?_ ?_))|(refine sm ?_ ?_)|refine ct ?_|refine cf ?_|((first|refine gs ?_ ?_|refine gl ?_ ?_|refine gc ?_ ?_)<;>intro h<;>(try simp only [NS] at h)<;>(try exact xf)<;>(try refine rn ?_ ?_))))
    ·exact aa
    ·exact aa
   refine TE.thenN ?_
   (repeat (with_reducible first|refine stp ?_|refine tD rfl ?_))
   (refine TE.drawK (fun _=>false) (by rfl) (by rfl) (by rfl) ?_)
   (repeat' (first|(with_reducible refine AllP.go ?_;first|exact og|((try simp only [OS]);repeat' (first|exact oj|refine And.intro ?_ ?_)))|(with_reducible first|exact PanicOk.body|exact rd.panic|refine PanicOk.then' ?_|refine PanicOk.block ?_|refine PanicOk.jump ?_)|(refine TL.done (by rfl) ?_)|(refine StepL.law rfl rfl rfl (fun _ h=>nomatch h) rfl (m_quo rfl rfl rfl (by decide) (by omega)) (by rfl) ?_;rintro _ rfl)|(refine sp ?_ ?_)|(refine sm ?_ ?_)|(refine TL.one (by rfl) ?_)|(refine TL.two (by rfl) ?_ ?_)|(refine TL.three (by rfl) ?_ ?_ ?_)|(refine TL.four (by rfl) ?_ ?_ ?_ ?_)))
   all_goals try exact lit1_ok (by omega)
   all_goals (refine StepL.callW (ih (n.tdiv 10) (by omega) (by omega)) rfl rfl rfl rfl rfl (by rfl) (by (first|exact trivial|((with_reducible refine AllP.go ?_);dsimp only [AllP,appP];repeat' (first|refine And.intro ?_ ?_|exact zz|assumption)))) (by rfl) (by rfl) ?_;intro _ _;(repeat' (first|(with_reducible refine AllP.go ?_;first|exact og|((try simp only [OS]);repeat' (first|exact oj|refine And.intro ?_ ?_)))|(with_reducible first|exact PanicOk.body|exact rd.panic|refine PanicOk.then' ?_|refine PanicOk.block ?_|refine PanicOk.jump ?_)|(refine TL.done (by rfl) ?_)|(refine TL.auto tysOk rfl ?_ (by rfl) ?_ ?_)|(refine sm ?_ ?_)|(refine sp ?_ ?_)|(refine TL.one (by rfl) ?_)|(refine TL.two (by rfl) ?_ ?_)|(refine TL.three (by rfl) ?_ ?_ ?_)|(refine TL.four (by rfl) ?_ ?_ ?_ ?_))))
   all_goals try exact lit1_ok (by omega)
   all_goals try (rw [lit1_sz];omega)
   all_goals
    refine wc ?_
    (refine TE.ret' io rfl tysOk (()) ?_ rfl (by rfl) ?_;all_goals (try (first|exact trivial|((with_reducible refine AllP.go ?_);dsimp only [AllP,appP];repeat' (first|refine And.intro ?_ ?_|exact zz)))))
    rw [itoa_low hlow]
    exact congrArg Value.string (sB_app _ _)
  by_cases hpos:9<n
  ·refine con_of Tryz.func105 rfl (by kernel_rfl) Tryz.ntmps105 rfl (by first | exact Nat.zero_le _ | decide) (fun _=>⟨rfl,rfl⟩) fun w S ν=>?_
   have hln:=itoa_len (n:=n / 10) (by omega)
   have hls:=sB_size (Lib.itoa (n / 10))
   refine wa ?_
   ((refine TE.drawK (fun _=>false) (by rfl) (by rfl) (by rfl) ?_);(repeat' (first|(with_reducible refine AllP.go ?_;first|exact og|((try simp only [OS]);repeat' (first|exact oj|refine And.intro ?_ ?_)))|(with_reducible first|exact PanicOk.body|exact rd.panic|refine PanicOk.then' ?_|refine PanicOk.block ?_|refine PanicOk.jump ?_)|(refine TL.done (by rfl) ?_)|(refine TL.auto tysOk rfl ?_ (by rfl) ?_ ?_)|(refine sm ?_ ?_)|(refine sp ?_ ?_)|(refine TL.one (by rfl) ?_)|(refine TL.two (by rfl) ?_ ?_)|(refine TL.three (by rfl) ?_ ?_ ?_)|(refine TL.four (by rfl) ?_ ?_ ?_ ?_))))
   all_goals try exact lit1_ok (by omega)
   all_goals (refine StepL.callW (ih (n / 10) (by omega) (by omega)) rfl rfl rfl rfl rfl (by rfl) (by (first|exact trivial|((with_reducible refine AllP.go ?_);dsimp only [AllP,appP];repeat' (first|refine And.intro ?_ ?_|exact zz|assumption)))) (by rfl) (by rfl) ?_;intro _ _;(repeat' (first|(with_reducible refine AllP.go ?_;first|exact og|((try simp only [OS]);repeat' (first|exact oj|refine And.intro ?_ ?_)))|(with_reducible first|exact PanicOk.body|exact rd.panic|refine PanicOk.then' ?_|refine PanicOk.block ?_|refine PanicOk.jump ?_)|(refine TL.done (by rfl) ?_)|(refine TL.auto tysOk rfl ?_ (by rfl) ?_ ?_)|(refine sm ?_ ?_)|(refine sp ?_ ?_)|(refine TL.one (by rfl) ?_)|(refine TL.two (by rfl) ?_ ?_)|(refine TL.three (by rfl) ?_ ?_ ?_)|(refine TL.four (by rfl) ?_ ?_ ?_ ?_))))
   all_goals try exact lit1_ok (by omega)
   all_goals try (rw [lit1_sz];omega)
   all_goals
    refine wc ?_
    (refine TE.ret' io rfl tysOk (()) ?_ rfl (by rfl) ?_;all_goals (try (first|exact trivial|((with_reducible refine AllP.go ?_);dsimp only [AllP,appP];repeat' (first|refine And.intro ?_ ?_|exact zz)))))
    rw [itoa_pos hpos]
    exact congrArg Value.string (sB_app _ _)
  refine con_of Tryz.func105 rfl (by kernel_rfl) Tryz.ntmps105 rfl (by first | exact Nat.zero_le _ | decide) (fun _=>⟨rfl,rfl⟩) fun w S ν=>?_
  (repeat' (first|(with_reducible refine AllP.go ?_;first|exact og|((try simp only [OS]);repeat' (first|exact oj|refine And.intro ?_ ?_)))|(refine rg ?_ ?_)|(with_reducible first|refine stp ?_|refine tD rfl ?_)|(with_reducible first|exact PanicOk.body|exact rd.panic|refine PanicOk.then' ?_|refine PanicOk.block ?_|refine PanicOk.jump ?_)|(refine dc ?_)|(refine dn ?_)|(refine TL.done (by rfl) ?_)|(refine TL.auto tysOk rfl ?_ (by rfl) ?_ ?_)|((refine TL.one (by rfl) ?_);first|(refine sm ?_ ?_)|(refine sp ?_ ?_))|(refine sm ?_ ?_)|refine ct ?_|refine cf ?_|((first|refine gs ?_ ?_|refine gl ?_ ?_|refine gc ?_ ?_)<;>intro h<;>(try simp only [NS] at h)<;>(try exact xf)<;>(try refine rn ?_ ?_))))
  ·refine cw (ih (0 - n) (by omega) (by omega)) ?_
   intro _ _
   have hln:=itoa_len (n:=0 - n) (by omega)
   have hls:=sB_size (Lib.itoa (0 - n))
   ((refine rn ?_ ?_);(repeat' (first|(with_reducible refine AllP.go ?_;first|exact og|((try simp only [OS]);repeat' (first|exact oj|refine And.intro ?_ ?_)))|(refine rg ?_ ?_)|(with_reducible first|refine stp ?_|refine tD rfl ?_)|(with_reducible first|exact PanicOk.body|exact rd.panic|refine PanicOk.then' ?_|refine PanicOk.block ?_|refine PanicOk.jump ?_)|(refine dc ?_)|(refine dn ?_)|(refine TL.done (by rfl) ?_)|(refine TL.auto tysOk rfl ?_ (by rfl) ?_ ?_)|((refine TL.one (by rfl) ?_);first|(refine sm ?_ ?_)|(refine sp ?_ ?_))|(refine sm ?_ ?_)|refine ct ?_|refine cf ?_|((first|refine gs ?_ ?_|refine gl ?_ ?_|refine gc ?_ ?_)<;>intro h<;>(try simp only [NS] at h)<;>(try exact xf)<;>(try refine rn ?_ ?_)))))
   ·show 1+(sB (Lib.itoa (0 - n))).size≤_
    omega
   (refine TE.ret' io rfl tysOk (()) ?_ rfl (by rfl) ?_;all_goals (try (first|exact trivial|((with_reducible refine AllP.go ?_);dsimp only [AllP,appP];repeat' (first|refine And.intro ?_ ?_|exact zz)))))
   rw [itoa_neg (n:=n) (by omega)]
   exact congrArg Value.string (sB_app [45] _)
  ·exact lit1_ok (by omega)
  ·rw [itoa_small (by omega)]
   exact po
theorem natF_take {b:Bs} {k:Nat} (h:k<b.length):natF 0 (b.take (k+1))=10*natF 0 (b.take k)+((b.getD k 0).toNat - 48):=by
 rw [List.take_add_one,List.getElem?_eq_getElem h,natF_app,List.getD_eq_getElem?_getD,List.getElem?_eq_getElem h];rfl
theorem natF_pre (b:Bs) (k:Nat):natF 0 (b.take k)≤natF 0 b:=by
 conv=>rhs;rw [← List.take_append_drop k b]
 rw [natF_app];exact natF_ge _ _
theorem int_quo {P d:Nat} (hd:d≤9):(-(P:Int)<((-9223372036854775808+(d:Int))).tdiv 10)↔9223372036854775808<10*P+d:=by
 have h1:(-9223372036854775808+(d:Int)).tdiv 10 = -((9223372036854775808 - (d:Int)) / 10):=by
  rw [← Int.tdiv_eq_ediv_of_nonneg (by omega),← Int.neg_tdiv];congr 1;omega
 rw [h1];omega
theorem int_all {l:Bs} (h:decI l=true):∃ (b:Bs) (f:Nat),f+b.length=l.length∧0<b.length∧(∀ k,k<b.length→48≤(b.getD k 0).toNat∧(b.getD k 0).toNat≤57∧l.getD (f+k) 0=b.getD k 0)∧
  ((l.getD 0 0).toNat=45∧f=1∧valI l = -(natF 0 b:Int)∨¬ (l.getD 0 0).toNat=45∧f=0∧valI l=(natF 0 b:Int)):=by
 obtain ⟨h1,h2,_⟩:=dec_spec h
 have hdig:∀ (b:Bs),b.all digC=true→∀ k,k<b.length→48≤(b.getD k 0).toNat∧(b.getD k 0).toNat≤57:=fun b hb k hk=>by
  have:=List.all_eq_true.1 hb b[k] (List.getElem_mem hk)
  rw [List.getD_eq_getElem?_getD,List.getElem?_eq_getElem hk]
  simpa using this
 cases l with
 | nil=>exact absurd rfl h1
 | cons c r=>
  by_cases hc:c=45
  ·subst hc
   have hb:bodyI (45 :: r)=r:=rfl
   rw [hb] at h1 h2
   refine ⟨r,1,by simp;omega,List.length_pos_iff.2 h1,fun k hk=>⟨(hdig r h2 k hk).1,(hdig r h2 k hk).2,?_⟩,.inl ⟨rfl,rfl,rfl⟩⟩
   rw [Nat.add_comm,List.getD_cons_succ]
  ·have hb:bodyI (c :: r)=c :: r:=by unfold bodyI;rw [if_neg (by simpa using hc)]
   rw [hb] at h1 h2
   have hv:valI (c :: r)=(natF 0 (c :: r):Int):=by unfold valI;rw [if_neg (by simpa using hc)];rfl
   refine ⟨c :: r,0,by simp,List.length_pos_iff.2 h1,fun k hk=>⟨(hdig _ h2 k hk).1,(hdig _ h2 k hk).2,by rw [Nat.zero_add]⟩,.inr ⟨fun e=>?_,rfl,hv⟩⟩
   have:(c :: r).getD 0 0=c:=rfl
   rw [this] at e
   exact hc (UInt8.toNat_inj.1 e)
theorem rInt_c (l:Bs) (low high:Int) (hl:l.length≤1000000):Con Tryz.prog 117 [.o (.c (.string (sB l))),.o (.c (.int .i64 low)),.o (.c (.int .i64 high))] [] 0 0 U (fun _=>.t [.inl (.c (.int .i64 (intI l low high).1)),.inl (.c (.int .i64 (intI l low high).2))]) G0:=by
 refine con_of Tryz.func117 rfl (by kernel_rfl) Tryz.ntmps117 rfl (by first | exact Nat.zero_le _ | decide) (fun _=>⟨rfl,rfl⟩) fun w S ν=>?_
 obtain ⟨R,hR⟩:∃ R,R=intI l low high:=⟨_,rfl⟩
 obtain ⟨D,hD⟩:∃ D,D=decI l:=⟨_,rfl⟩
 obtain ⟨V,hV⟩:∃ V,V=valI l:=⟨_,rfl⟩
 have c1:=rDec_c l hl
 have hz:=sB_size l
 have hi:R=if D=false then (0,6) else if V < -9223372036854775808∨9223372036854775807<V∨V<low∨high<V then (0,7) else (V,0):=by rw [hR,hD,hV];rfl
 have hall:=fun h:D=true=>int_all (l:=l) (hD ▸ h)
 rw [← hV] at hall
 rw [← hD] at c1
 rw [← hR]
 clear hR hD hV
 refine wc ?_
 refine cw (c1) ?_
 intro _ _
 ((refine rn ?_ ?_);(repeat' (first|(with_reducible refine AllP.go ?_;first|exact og|((try simp only [OS]);repeat' (first|exact oj|refine And.intro ?_ ?_)))|(refine rg ?_ ?_)|(with_reducible first|refine stp ?_|refine tD rfl ?_)|(with_reducible first|exact PanicOk.body|exact rd.panic|refine PanicOk.then' ?_|refine PanicOk.block ?_|refine PanicOk.jump ?_)|(refine dc ?_)|(refine dn ?_)|(refine TL.done (by rfl) ?_)|(refine TL.auto tysOk rfl ?_ (by rfl) ?_ ?_)|((refine TL.one (by rfl) ?_);first|(refine sm ?_ ?_)|(refine sp ?_ ?_))|(refine sm ?_ ?_)|refine ct ?_|refine cf ?_|((first|refine gs ?_ ?_|refine gl ?_ ?_|refine gc ?_ ?_)<;>intro h<;>(try simp only [NS] at h)<;>(try exact xf)<;>(try refine rn ?_ ?_)))))
 ·rw [hi,if_pos (by assumption)]
  exact po
 ·obtain ⟨b,f,h1,h2,h3,h4⟩:=hall (by assumption)
  omega
 obtain ⟨b,f,h1,h2,h3,h4⟩:=hall (by assumption)
 rw [if_neg (by simp_all)] at hi
 have h0:(l.getD (Int.toNat 0) 0).toNat=(l.getD 0 0).toNat:=rfl
 refine TE.loopG (fun q:Nat=>q≤l.length∧natF 0 (b.take (q - f))≤9223372036854775808) (fun q=>[(10,.o (.c (.int .i64 q))),(9,.o (.c (.int .i64 (-(natF 0 (b.take (q - f)):Int)))))]) [] (fun _=>[]) (fun q=>l.length - q) 0 (by rfl) ⟨Nat.zero_le _,by rw [Nat.zero_sub];exact Nat.zero_le _⟩ ?_ ?_
 ·(refine Ent.of rfl rfl (by rfl) ?_;(try (first|exact trivial|((with_reducible refine AllP.go ?_);dsimp only [AllP,appP];repeat' (first|refine And.intro ?_ ?_|exact zz)))))
  rw [Nat.zero_sub];rfl
 rintro q ⟨hq,hP⟩
 have hpre:=natF_pre b (q+1 - f)
 have hstep:f≤q→q<l.length→natF 0 (b.take (q+1 - f))=10*natF 0 (b.take (q - f))+((b.getD (q - f) 0).toNat - 48):=fun ha hb=>by
  rw [show q+1 - f=(q - f)+1 by omega];exact natF_take (by omega)
 have hlq:f≤q→q<l.length→l.getD q 0=b.getD (q - f) 0:=fun ha hb=>by
  have:=(h3 (q - f) (by omega)).2.2
  rwa [show f+(q - f)=q by omega] at this
 have hdq:f≤q→q<l.length→48≤(l.getD q 0).toNat∧(l.getD q 0).toNat≤57:=fun ha hb=>by
  rw [hlq ha hb];exact ⟨(h3 (q - f) (by omega)).1,(h3 (q - f) (by omega)).2.1⟩
 have hf0:q<f→q=0:=fun h=>by omega
 (repeat (with_reducible first|refine stp ?_|refine tD rfl ?_))
 ((refine rg ?_ ?_);try (with_reducible refine AllP.go ?_;first|exact og|((try simp only [OS]);repeat' (first|exact oj|refine And.intro ?_ ?_))))
 (repeat (with_reducible first|refine stp ?_|refine tD rfl ?_))
 (refine TE.cond_split (by rfl) ?_ ?_<;>intro h<;>(try simp only [NS] at h)<;>(try (exfalso;first | omega | exact h trivial | exact h | exact h rfl | contradiction)))
 ·(repeat (with_reducible first|refine stp ?_|refine tD rfl ?_))
  ((refine rg ?_ ?_);try (with_reducible refine AllP.go ?_;first|exact og|((try simp only [OS]);repeat' (first|exact oj|refine And.intro ?_ ?_))))
  (repeat (with_reducible first|refine stp ?_|refine tD rfl ?_))
  (refine TE.cond_split (by rfl) ?_ ?_<;>intro h<;>(try simp only [NS] at h)<;>(try (exfalso;first | omega | exact h trivial | exact h | exact h rfl | contradiction)))
  ·have hq0:q=0:=by
    rcases Nat.lt_or_ge q f with c | c
    ·exact hf0 c
    ·have:=hdq c (by omega);omega
   subst hq0
   have hf1:f=1:=by omega
   refine wc ?_
   refine TE.again' (0+1) ⟨by omega,by rw [hf1];exact Nat.zero_le _⟩ (by omega) ?_
   (refine Ent.of rfl rfl (by rfl) ?_;(try (first|exact trivial|((with_reducible refine AllP.go ?_);dsimp only [AllP,appP];repeat' (first|refine And.intro ?_ ?_|exact zz)))))
   rw [hf1]
  ·have hfq:f≤q:=by
    rcases Nat.lt_or_ge q f with c | c
    ·have:=hf0 c
     subst this
     have h5:¬ ((l.getD 0 0).toNat:Int)=45:=by assumption
     omega
    ·exact c
   have hql:q<l.length:=by omega
   obtain ⟨P,hPe⟩:∃ P,P=natF 0 (b.take (q - f)):=⟨_,rfl⟩
   obtain ⟨d,hde⟩:∃ d,d=(l.getD q 0).toNat - 48:=⟨_,rfl⟩
   have hd9:d≤9:=by have:=hdq hfq hql;omega
   have hdm:(((l.getD q 0).toNat:Int) - 48) % 256=(d:Int):=by have:=hdq hfq hql;omega
   have hst:=hstep hfq hql
   rw [← hlq hfq hql,← hPe,← hde] at hst
   have hov:(-(P:Int)<((-9223372036854775808+((((l.getD q 0).toNat:Int) - 48) % 256)).tdiv 10))↔9223372036854775808<10*P+d:=by rw [hdm];exact int_quo hd9
   rw [← hPe] at hP⊢
   (repeat (with_reducible first|refine stp ?_|refine tD rfl ?_))
   ((refine rg ?_ ?_);try (with_reducible refine AllP.go ?_;first|exact og|((try simp only [OS]);repeat' (first|exact oj|refine And.intro ?_ ?_))))
   (repeat (with_reducible first|refine stp ?_|refine tD rfl ?_))
   refine TE.region ?_
   (refine TE.step rfl rfl rfl (fun _ h=>nomatch h) (m_pure tysOk rfl ?_) ?_;rotate_left;rintro _ rfl;rotate_right;(with_reducible refine AllP.go ?_;first|exact og|((try simp only [OS]);repeat' (first|exact oj|refine And.intro ?_ ?_))))
   (refine TE.step rfl rfl rfl (fun _ h=>nomatch h) (m_pure tysOk rfl ?_) ?_;rotate_left;rintro _ rfl;rotate_right;(with_reducible refine AllP.go ?_;first|exact og|((try simp only [OS]);repeat' (first|exact oj|refine And.intro ?_ ?_))))
   (refine TE.step rfl rfl rfl (fun _ h=>nomatch h) (m_pure tysOk rfl ?_) ?_;rotate_left;rintro _ rfl;rotate_right;(with_reducible refine AllP.go ?_;first|exact og|((try simp only [OS]);repeat' (first|exact oj|refine And.intro ?_ ?_))))
   (refine TE.step rfl rfl rfl (fun _ h=>nomatch h) (m_quo rfl rfl rfl (by decide) (by omega)) ?_;rintro _ rfl)
   ((refine rn ?_ ?_);try (with_reducible refine AllP.go ?_;first|exact og|((try simp only [OS]);repeat' (first|exact oj|refine And.intro ?_ ?_))))
   (repeat (with_reducible first|refine stp ?_|refine tD rfl ?_))
   refine TE.cond_split (by rfl) ?_ ?_<;>intro hc
   ·have hc:=hov.1 (of_decide_eq_true hc)
    rw [hi,if_pos (by omega)]
    refine wc ?_
    exact po
   ·have hc:¬ 9223372036854775808<10*P+d:=fun h=>of_decide_eq_false hc (hov.2 h)
    refine wc ?_
    ·refine TE.again' (q+1) ⟨by omega,by rw [hst];omega⟩ (by omega) ?_
     exact ee
 ·obtain rfl:q=l.length:=by omega
  have hbt:b.take (l.length - f)=b:=List.take_of_length_le (by omega)
  rw [hbt] at hP⊢
  (repeat' (first|(with_reducible refine AllP.go ?_;first|exact og|((try simp only [OS]);repeat' (first|exact oj|refine And.intro ?_ ?_)))|(refine rg ?_ ?_)|(with_reducible first|refine stp ?_|refine tD rfl ?_)|(with_reducible first|exact PanicOk.body|exact rd.panic|refine PanicOk.then' ?_|refine PanicOk.block ?_|refine PanicOk.jump ?_)|(refine dc ?_)|(refine dn ?_)|(refine TL.done (by rfl) ?_)|(refine TL.auto tysOk rfl ?_ (by rfl) ?_ ?_)|((refine TL.one (by rfl) ?_);first|(refine sm ?_ ?_)|(refine sp ?_ ?_))|(refine sm ?_ ?_)|refine ct ?_|refine cf ?_|((first|refine gs ?_ ?_|refine gl ?_ ?_|refine gc ?_ ?_)<;>intro h<;>(try simp only [NS] at h)<;>(try exact xf)<;>(try refine rn ?_ ?_))))
  all_goals first
   | (rw [hi,if_pos (by omega)];(refine TE.ret' io rfl tysOk (()) ?_ rfl (by rfl) ?_;all_goals (try (first|exact trivial|((with_reducible refine AllP.go ?_);dsimp only [AllP,appP];repeat' (first|refine And.intro ?_ ?_|exact zz)))));done)
   | (rw [hi,if_neg (by omega)];(refine TE.ret' io rfl tysOk (()) ?_ rfl (by rfl) ?_;all_goals (try (first|exact trivial|((with_reducible refine AllP.go ?_);dsimp only [AllP,appP];repeat' (first|refine And.intro ?_ ?_|exact zz)))));done)
theorem wplain_c (c:UInt8):Con Tryz.prog 103 [.o (.c (.int .u8 c.toNat))] [] 0 0 U (fun _=>.o (.sb (plainC c))) G0:=by
 refine con_of Tryz.func103 rfl (by kernel_rfl) Tryz.ntmps103 rfl (by first | exact Nat.zero_le _ | decide) (fun _=>⟨rfl,rfl⟩) fun w S ν=>?_
 (repeat' (first|(with_reducible refine AllP.go ?_;first|exact og|((try simp only [OS]);repeat' (first|exact oj|refine And.intro ?_ ?_)))|(refine rg ?_ ?_)|(with_reducible first|refine stp ?_|refine tD rfl ?_)|(with_reducible first|exact PanicOk.body|exact rd.panic|refine PanicOk.then' ?_|refine PanicOk.block ?_|refine PanicOk.jump ?_)|(refine dc ?_)|(refine dn ?_)|(refine TL.done (by rfl) ?_)|(refine TL.auto tysOk rfl ?_ (by rfl) ?_ ?_)|((refine TL.one (by rfl) ?_);first|(refine sm ?_ ?_)|(refine sp ?_ ?_))|(refine sm ?_ ?_)|refine ct ?_|refine cf ?_|((first|refine gs ?_ ?_|refine gl ?_ ?_|refine gc ?_ ?_)<;>intro h<;>(try simp only [NS] at h)<;>(try exact xf)<;>(try refine rn ?_ ?_))))
 ·rw [show plainC c=!decide ((c.toNat:Int)=92) by rw [← decide_not];exact decide_eq_decide.2 ⟨fun h=>by omega,fun h=>by omega⟩]
  exact po
 all_goals rw [show plainC c=false from decide_eq_false (by omega)];(refine TE.ret' io rfl tysOk (()) ?_ rfl (by rfl) ?_;all_goals (try (first|exact trivial|((with_reducible refine AllP.go ?_);dsimp only [AllP,appP];repeat' (first|refine And.intro ?_ ?_|exact zz)))))
theorem rplain_c (c:UInt8):Con Tryz.prog 107 [.o (.c (.int .u8 c.toNat))] [] 0 0 U (fun _=>.o (.sb (plainC c))) G0:=by
 refine con_of Tryz.func107 rfl (by kernel_rfl) Tryz.ntmps107 rfl (by first | exact Nat.zero_le _ | decide) (fun _=>⟨rfl,rfl⟩) fun w S ν=>?_
 (repeat' (first|(with_reducible refine AllP.go ?_;first|exact og|((try simp only [OS]);repeat' (first|exact oj|refine And.intro ?_ ?_)))|(refine rg ?_ ?_)|(with_reducible first|refine stp ?_|refine tD rfl ?_)|(with_reducible first|exact PanicOk.body|exact rd.panic|refine PanicOk.then' ?_|refine PanicOk.block ?_|refine PanicOk.jump ?_)|(refine dc ?_)|(refine dn ?_)|(refine TL.done (by rfl) ?_)|(refine TL.auto tysOk rfl ?_ (by rfl) ?_ ?_)|((refine TL.one (by rfl) ?_);first|(refine sm ?_ ?_)|(refine sp ?_ ?_))|(refine sm ?_ ?_)|refine ct ?_|refine cf ?_|((first|refine gs ?_ ?_|refine gl ?_ ?_|refine gc ?_ ?_)<;>intro h<;>(try simp only [NS] at h)<;>(try exact xf)<;>(try refine rn ?_ ?_))))
 ·rw [show plainC c=!decide ((c.toNat:Int)=92) by rw [← decide_not];exact decide_eq_decide.2 ⟨fun h=>by omega,fun h=>by omega⟩]
  exact po
 all_goals rw [show plainC c=false from decide_eq_false (by omega)];(refine TE.ret' io rfl tysOk (()) ?_ rfl (by rfl) ?_;all_goals (try (first|exact trivial|((with_reducible refine AllP.go ?_);dsimp only [AllP,appP];repeat' (first|refine And.intro ?_ ?_|exact zz)))))
theorem ltr_at {c:UInt8} {q:Nat} (hq:q<5) (h:c.toNat=escL.getD (2*q) 0):(ltrI c).toNat=escL.getD (2*q+1) 0:=by
 rcases q with _ | _ | _ | _ | _ | q
 all_goals first
  | (unfold ltrI;rw [h];rfl)
  | omega
theorem ltr_no {c:UInt8} (h:∀ j,j<5→c.toNat≠escL.getD (2*j) 0):ltrI c=0:=by
 unfold ltrI
 rw [if_neg (show c.toNat≠34 from h 0 (by decide)),if_neg (show c.toNat≠92 from h 1 (by decide)),if_neg (show c.toNat≠10 from h 2 (by decide)),if_neg (show c.toNat≠13 from h 3 (by decide)),if_neg (show c.toNat≠9 from h 4 (by decide))]
theorem ltr_c (m:Int) (te:TypeId) (pe:Value) (c:UInt8):Con Tryz.prog 102 [.o (.c (.int .u8 c.toNat))] (glC m te pe) 4 4 U (fun _=>.o (.c (.int .u8 (ltrI c).toNat))) (fun _=>glC m te pe):=by
 refine con_of Tryz.func102 rfl (by kernel_rfl) Tryz.ntmps102 rfl (by first | exact Nat.zero_le _ | decide) (fun _=>⟨rfl,rfl⟩) fun w S ν=>?_
 (repeat (with_reducible first|refine stp ?_|refine tD rfl ?_))
 ((refine rg ?_ ?_);try (with_reducible refine AllP.go ?_;first|exact og|((try simp only [OS]);repeat' (first|exact oj|refine And.intro ?_ ?_))))
 (repeat (with_reducible first|refine stp ?_|refine tD rfl ?_))
 refine TE.region ?_
 (refine TE.step rfl rfl rfl (fun _ h=>nomatch h) (m_statLoad tysOk rfl rfl (by rfl) (by rfl)) ?_;rintro _ rfl)
 ((refine rn ?_ ?_);try (with_reducible refine AllP.go ?_;first|exact og|((try simp only [OS]);repeat' (first|exact oj|refine And.intro ?_ ?_))))
 (repeat (with_reducible first|refine stp ?_|refine tD rfl ?_))
 refine TE.loopG (fun q:Nat=>q≤5∧∀ j,j<q→c.toNat≠escL.getD (2*j) 0) (fun q=>[(6,.o (.c (.int .i64 q)))]) [] (fun _=>[]) (fun q=>5 - q) 0 (by rfl) ⟨Nat.zero_le _,fun _ h=>absurd h (Nat.not_lt_zero _)⟩ ?_ ?_
 ·exact ee
 rintro q ⟨hq,hqa⟩
 (repeat (with_reducible first|refine stp ?_|refine tD rfl ?_))
 ((refine rg ?_ ?_);try (with_reducible refine AllP.go ?_;first|exact og|((try simp only [OS]);repeat' (first|exact oj|refine And.intro ?_ ?_))))
 (repeat (with_reducible first|refine stp ?_|refine tD rfl ?_))
 (refine TE.cond_split (by rfl) ?_ ?_<;>intro h<;>(try simp only [NS] at h)<;>(try (exfalso;first | omega | exact h trivial | exact h | exact h rfl | contradiction)))
 ·rcases q with _ | _ | _ | _ | _ | q
  all_goals try (exfalso;omega)
  all_goals (repeat (with_reducible first|refine stp ?_|refine tD rfl ?_))
  all_goals refine TE.region ?_
  all_goals (refine TE.step rfl rfl rfl (fun _ h=>nomatch h) (m_aggIdx tysOk rfl (Tryz.underlying172) rfl rfl rfl rfl (by rfl) ?_) ?_;rotate_left;rintro _ rfl;rotate_right)
  all_goals try (first | exact trivial | exact fun i _=>⟨_,rfl⟩ | ((try simp only [OS]);repeat' (first | omega | exact fun i _=>⟨_,rfl⟩ | refine And.intro ?_ ?_)))
  all_goals ((refine rn ?_ ?_);try (with_reducible refine AllP.go ?_;first|exact og|((try simp only [OS]);repeat' (first|exact oj|refine And.intro ?_ ?_))))
  all_goals (repeat (with_reducible first|refine stp ?_|refine tD rfl ?_))
  all_goals ((refine rg ?_ ?_);try (with_reducible refine AllP.go ?_;first|exact og|((try simp only [OS]);repeat' (first|exact oj|refine And.intro ?_ ?_))))
  all_goals (repeat (with_reducible first|refine stp ?_|refine tD rfl ?_))
  all_goals (refine TE.cond_split (by rfl) ?_ ?_<;>intro h<;>(try simp only [NS] at h)<;>(try (exfalso;first | omega | exact h trivial | exact h | exact h rfl | contradiction)))
  ·refine wc ?_
   rw [show (ltrI c).toNat=escL.getD (2*0+1) 0 from ltr_at (q:=0) (by decide) h.symm]
   exact po
  ·refine wc ?_
   refine TE.again' 1 ⟨by decide,fun j hj=>?_⟩ (by decide) ?_
   ·by_cases hj2:j=0
    ·subst hj2
     exact fun hh=>h hh.symm
    ·exact hqa j (by omega)
   ·exact ee
  ·refine wc ?_
   rw [show (ltrI c).toNat=escL.getD (2*1+1) 0 from ltr_at (q:=1) (by decide) h.symm]
   exact po
  ·refine wc ?_
   refine TE.again' 2 ⟨by decide,fun j hj=>?_⟩ (by decide) ?_
   ·by_cases hj2:j=1
    ·subst hj2
     exact fun hh=>h hh.symm
    ·exact hqa j (by omega)
   ·exact ee
  ·refine wc ?_
   rw [show (ltrI c).toNat=escL.getD (2*2+1) 0 from ltr_at (q:=2) (by decide) h.symm]
   exact po
  ·refine wc ?_
   refine TE.again' 3 ⟨by decide,fun j hj=>?_⟩ (by decide) ?_
   ·by_cases hj2:j=2
    ·subst hj2
     exact fun hh=>h hh.symm
    ·exact hqa j (by omega)
   ·exact ee
  ·refine wc ?_
   rw [show (ltrI c).toNat=escL.getD (2*3+1) 0 from ltr_at (q:=3) (by decide) h.symm]
   exact po
  ·refine wc ?_
   refine TE.again' 4 ⟨by decide,fun j hj=>?_⟩ (by decide) ?_
   ·by_cases hj2:j=3
    ·subst hj2
     exact fun hh=>h hh.symm
    ·exact hqa j (by omega)
   ·exact ee
  ·refine wc ?_
   rw [show (ltrI c).toNat=escL.getD (2*4+1) 0 from ltr_at (q:=4) (by decide) h.symm]
   exact po
  ·refine wc ?_
   refine TE.again' 5 ⟨by decide,fun j hj=>?_⟩ (by decide) ?_
   ·by_cases hj2:j=4
    ·subst hj2
     exact fun hh=>h hh.symm
    ·exact hqa j (by omega)
   ·exact ee
 ·(repeat (with_reducible first|refine stp ?_|refine tD rfl ?_))
  refine wc ?_
  rw [ltr_no (fun j hj=>hqa j (by omega))]
  exact po
theorem app1_cell (x:Bs) (b:UInt8) (i:Nat) (hi:i<x.length+1):(appC (bytesC x) (litC [[DC.c (.int .u8 b.toNat)]])).cell i 0=(bytesC (x++[b])).cell i 0:=by
 show (if i<x.length then byteR (x.getD i 0) 0 else (litC [[DC.c (.int .u8 b.toNat)]]).cell (i - x.length) 0)=byteR ((x++[b]).getD i 0) 0
 by_cases h:i<x.length
 ·rw [if_pos h,List.getD_eq_getElem?_getD,List.getD_eq_getElem?_getD,List.getElem?_append_left h]
 ·obtain rfl:i=x.length:=by omega
  rw [if_neg h,Nat.sub_self,List.getD_eq_getElem?_getD,List.getElem?_append_right (Nat.le_refl _),Nat.sub_self]
  rfl
theorem app1_ok (x:Bs) (b:UInt8) (i:Nat) (hi:i<x.length+1):∃ c:UInt8,(appC (bytesC x) (litC [[DC.c (.int .u8 b.toNat)]])).cell i 0 = .c (.int .u8 c.toNat):=⟨(x++[b]).getD i 0,app1_cell x b i hi⟩
theorem app1_str (x:Bs) (b:UInt8):ByteArray.mk (ctBytes (x.length+1) (appC (bytesC x) (litC [[DC.c (.int .u8 b.toNat)]])).cell).toArray=sB (x++[b]):=by
 refine congrArg (fun l:Bs=>ByteArray.mk l.toArray) ?_
 have h:ctBytes (x.length+1) (appC (bytesC x) (litC [[DC.c (.int .u8 b.toNat)]])).cell=ctBytes (x.length+1) (bytesC (x++[b])).cell:=by
  unfold ctBytes
  exact List.map_congr_left fun i hi=>congrArg dcByte (app1_cell x b i (List.mem_range.1 hi))
 rw [h]
 have:=ctBytes_bytesC (x++[b])
 rw [bytesC_n,List.length_append] at this
 exact this
theorem lit2 (a b:UInt8):LeDC 1 (litC [[.c (.int .u8 a.toNat)],[.c (.int .u8 b.toNat)]]) (bytesC [a,b]):=
 listC_lit ⟨nth1x (LeX.of_eq rfl),nth1x (LeX.of_eq rfl),trivial⟩
theorem lit4 (a b c d:UInt8):LeDC 1 (litC [[.c (.int .u8 a.toNat)],[.c (.int .u8 b.toNat)],[.c (.int .u8 c.toNat)],[.c (.int .u8 d.toNat)]]) (bytesC [a,b,c,d]):=
 listC_lit ⟨nth1x (LeX.of_eq rfl),nth1x (LeX.of_eq rfl),nth1x (LeX.of_eq rfl),nth1x (LeX.of_eq rfl),trivial⟩
theorem hx0 (c:UInt8):(c.toNat:Int)<2 ^ 8:=by have:=c.toNat_lt;omega
theorem hx1 (c:UInt8):0≤(c.toNat:Int) / 2 ^ Int.toNat 4:=Int.ediv_nonneg (by omega) (by decide)
theorem hx2 (c:UInt8):(c.toNat:Int) / 2 ^ Int.toNat 4<16:=by
 have:=c.toNat_lt
 show (c.toNat:Int) / 16<16
 omega
theorem hx3 (c:UInt8):((c.toNat &&& Int.toNat 15:Nat):Int)<16:=by
 rw [show c.toNat &&& Int.toNat 15=c.toNat % 16 from Nat.and_two_pow_sub_one_eq_mod c.toNat 4]
 omega
theorem hx6 (c:UInt8) (h:plainC c=false) (k:(ltrI c).toNat=0):escI c=[92,120,hexL.getD (((c.toNat:Int) / 2 ^ Int.toNat 4).toNat) 0,hexL.getD (((c.toNat &&& Int.toNat 15:Nat):Int).toNat) 0]:=by
 rw [esc_x h k,show c.toNat &&& Int.toNat 15=c.toNat % 16 from Nat.and_two_pow_sub_one_eq_mod c.toNat 4,show ((c.toNat:Int) / 2 ^ Int.toNat 4).toNat=c.toNat / 16 from (by show ((c.toNat:Int) / 16).toNat=_;omega)]
 rfl
theorem Quote_c (m:Int) (te:TypeId) (pe:Value) (l:Bs) (hl:l.length≤1000000):Con Tryz.prog 66 [.o (.c (.string (sB l)))] (glC m te pe) 4 4 U (fun _=>.o (.c (.string (sB (quoteI l))))) (fun _=>glC m te pe):=by
 refine con_of Tryz.func66 rfl (by kernel_rfl) Tryz.ntmps66 rfl (by first | exact Nat.zero_le _ | decide) (fun _=>⟨rfl,rfl⟩) fun w S ν=>?_
 have hz:=sB_size l
 refine wc ?_
 (refine TE.only [16,15,3,2,0] (by rfl) ?_)
 refine TE.loopG (fun q:Nat=>q≤l.length) (fun q=>[(16,.o (.c (.int .i64 q))),(3,.o (.own 6))]) [6] (fun q=>[.own 6 5 1 (bytesC (34 :: (l.take q).flatMap escI))]) (fun q=>l.length - q) 0 (by rfl) (Nat.zero_le _) ?_ ?_
 ·(refine Ent.of rfl rfl (by rfl) ?_;(try (first|exact trivial|((with_reducible refine AllP.go ?_);dsimp only [AllP,appP];repeat' (first|refine And.intro ?_ ?_|exact zz)))))
  exact bytes_app (x:=[]) (LeDC.nil rfl rfl) (byte_lit (b:=34) rfl) rfl
 intro q hq
 have hfl:=escs_len (l.take q)
 have hfl2:(l.take q).length≤q:=List.length_take_le ..
 (repeat' (first|(with_reducible refine AllP.go ?_;first|exact og|((try simp only [OS]);repeat' (first|exact oj|refine And.intro ?_ ?_)))|(refine rg ?_ ?_)|(with_reducible first|refine stp ?_|refine tD rfl ?_)|(with_reducible first|exact PanicOk.body|exact rd.panic|refine PanicOk.then' ?_|refine PanicOk.block ?_|refine PanicOk.jump ?_)|(refine dc ?_)|(refine dn ?_)|(refine TL.done (by rfl) ?_)|(refine TL.auto tysOk rfl ?_ (by rfl) ?_ ?_)|((refine TL.one (by rfl) ?_);first|(refine sm ?_ ?_)|(refine sp ?_ ?_))|(refine sm ?_ ?_)|refine ct ?_|refine cf ?_|((first|refine gs ?_ ?_|refine gl ?_ ?_|refine gc ?_ ?_)<;>intro h<;>(try simp only [NS] at h)<;>(try exact xf)<;>(try refine rn ?_ ?_))))
 ·refine cw (ltr_c m te pe (l.getD q 0)) ?_
  intro _ _
  refine wd ?_
  ·refine cw (wplain_c (l.getD q 0)) ?_
   intro _ _
   ((refine rn ?_ ?_);(repeat' (first|(with_reducible refine AllP.go ?_;first|exact og|((try simp only [OS]);repeat' (first|exact oj|refine And.intro ?_ ?_)))|(refine rg ?_ ?_)|(with_reducible first|refine stp ?_|refine tD rfl ?_)|refine ct ?_|refine cf ?_|((first|refine gs ?_ ?_|refine gl ?_ ?_|refine gc ?_ ?_)<;>intro h<;>(try simp only [NS] at h)<;>(try exact xf)<;>(try refine rn ?_ ?_)))))
   ·refine TE.again' (q+1) (by omega) (by omega) ?_
    (refine Ent.of rfl rfl (by rfl) ?_;(try (first|exact trivial|((with_reducible refine AllP.go ?_);dsimp only [AllP,appP];repeat' (first|refine And.intro ?_ ?_|exact zz)))))
    exact bytes_app (LeDC.refl _ _) (byte_lit rfl) (by rw [escs_snoc (by omega),esc_p (decide_eq_true (by assumption))];rfl)
   ·refine TE.again' (q+1) (by omega) (by omega) ?_
    (refine Ent.of rfl rfl (by rfl) ?_;(try (first|exact trivial|((with_reducible refine AllP.go ?_);dsimp only [AllP,appP];repeat' (first|refine And.intro ?_ ?_|exact zz)))))
    exact bytes_app (LeDC.refl _ _) (lit2 92 _) (by rw [escs_snoc (by omega),esc_l (decide_eq_false (by assumption)) (by omega)];rfl)
   ((refine TE.drawK (fun _=>false) (by rfl) (by rfl) (by rfl) ?_);(repeat' (first|(with_reducible refine AllP.go ?_;first|exact og|((try simp only [OS]);repeat' (first|exact oj|refine And.intro ?_ ?_)))|(with_reducible first|exact PanicOk.body|exact rd.panic|refine PanicOk.then' ?_|refine PanicOk.block ?_|refine PanicOk.jump ?_)|(refine TL.done (by rfl) ?_)|(refine TL.auto tysOk rfl ?_ (by rfl) ?_ ?_)|(refine sm ?_ ?_)|(refine sp ?_ ?_)|(refine TL.one (by rfl) ?_)|(refine TL.two (by rfl) ?_ ?_)|(refine TL.three (by rfl) ?_ ?_ ?_)|(refine TL.four (by rfl) ?_ ?_ ?_ ?_))))
   ·exact hx3 (l.getD q 0)
   ·exact hx0 (l.getD q 0)
   ·exact hx1 (l.getD q 0)
   ·exact hx2 (l.getD q 0)
   refine wc ?_
   refine TE.again' (q+1) (by omega) (by omega) ?_
   (refine Ent.of rfl rfl (by rfl) ?_;(try (first|exact trivial|((with_reducible refine AllP.go ?_);dsimp only [AllP,appP];repeat' (first|refine And.intro ?_ ?_|exact zz)))))
   exact bytes_app (LeDC.refl _ _) (lit4 92 120 (hexL.getD ((((l.getD q 0).toNat:Int) / 2 ^ Int.toNat 4).toNat) 0) (hexL.getD ((((l.getD q 0).toNat &&& Int.toNat 15:Nat):Int).toNat) 0)) (by rw [escs_snoc (by omega),hx6 _ (decide_eq_false (by assumption)) (by omega)];rfl)
 ·exact app1_ok (34 :: (l.take q).flatMap escI) 34
 ·obtain rfl:q=l.length:=by omega
  rw [List.take_length]
  (refine TE.ret' io rfl tysOk (()) ?_ rfl (by rfl) ?_;all_goals (try (first|exact trivial|((with_reducible refine AllP.go ?_);dsimp only [AllP,appP];repeat' (first|refine And.intro ?_ ?_|exact zz)))))
  exact congrArg Value.string (app1_str (34 :: l.flatMap escI) 34)
theorem isBare_c (l:Bs) (hl:l.length≤1000000):Con Tryz.prog 67 [.o (.c (.string (sB l)))] [] 0 0 U (fun _=>.o (.sb (bareI l))) G0:=by
 refine con_of Tryz.func67 rfl (by kernel_rfl) Tryz.ntmps67 rfl (by first | exact Nat.zero_le _ | decide) (fun _=>⟨rfl,rfl⟩) fun w S ν=>?_
 have hz:=sB_size l
 refine wc ?_
 refine TE.loopG (fun q:Nat=>q≤l.length∧(l.take q).all bareC=true) (fun q=>[(6,.o (.c (.int .i64 q)))]) [] (fun _=>[]) (fun q=>l.length - q) 0 (by rfl) ⟨Nat.zero_le _,rfl⟩ ?_ ?_
 ·exact ee
 rintro q ⟨hq,hqa⟩
 have hst:=fun h=>all_step (p:=bareC) (l:=l) (q:=q) h
 have hno:=fun h=>all_no (p:=bareC) (l:=l) (q:=q) h
 (repeat' (first|(with_reducible refine AllP.go ?_;first|exact og|((try simp only [OS]);repeat' (first|exact oj|refine And.intro ?_ ?_)))|(refine rg ?_ ?_)|(with_reducible first|refine stp ?_|refine tD rfl ?_)|(with_reducible first|exact PanicOk.body|exact rd.panic|refine PanicOk.then' ?_|refine PanicOk.block ?_|refine PanicOk.jump ?_)|(refine dc ?_)|(refine dn ?_)|(refine TL.done (by rfl) ?_)|(refine TL.auto tysOk rfl ?_ (by rfl) ?_ ?_)|((refine TL.one (by rfl) ?_);first|(refine sm ?_ ?_)|(refine sp ?_ ?_))|(refine sm ?_ ?_)|refine ct ?_|refine cf ?_|((first|refine gs ?_ ?_|refine gl ?_ ?_|refine gc ?_ ?_)<;>intro h<;>(try simp only [NS] at h)<;>(try exact xf)<;>(try refine rn ?_ ?_))))
 ·refine cw (wplain_c (l.getD q 0)) ?_
  intro _ _
  ((refine rn ?_ ?_);(repeat' (first|(with_reducible refine AllP.go ?_;first|exact og|((try simp only [OS]);repeat' (first|exact oj|refine And.intro ?_ ?_)))|(refine rg ?_ ?_)|(with_reducible first|refine stp ?_|refine tD rfl ?_)|(with_reducible first|exact PanicOk.body|exact rd.panic|refine PanicOk.then' ?_|refine PanicOk.block ?_|refine PanicOk.jump ?_)|(refine dc ?_)|(refine dn ?_)|(refine TL.done (by rfl) ?_)|(refine TL.auto tysOk rfl ?_ (by rfl) ?_ ?_)|((refine TL.one (by rfl) ?_);first|(refine sm ?_ ?_)|(refine sp ?_ ?_))|(refine sm ?_ ?_)|refine ct ?_|refine cf ?_|((first|refine gs ?_ ?_|refine gl ?_ ?_|refine gc ?_ ?_)<;>intro h<;>(try simp only [NS] at h)<;>(try exact xf)<;>(try refine rn ?_ ?_)))))
  ·rw [show bareI l=false by unfold bareI;rw [hno (by omega) (by show (plainC _ && _)=false;rw [show plainC (l.getD q 0)=false from decide_eq_false (by assumption),Bool.false_and]),Bool.and_false]]
   exact po
  ·rw [show bareI l=false by unfold bareI;rw [hno (by omega) (by show (_ && decide ((l.getD q 0).toNat≠32))=false;rw [decide_eq_false (by omega),Bool.and_false]),Bool.and_false]]
   exact po
  ·refine TE.again' (q+1) ⟨by omega,?_⟩ (by omega) ?_
   ·rw [hst (by omega),hqa,Bool.true_and]
    show (plainC _ && decide ((l.getD q 0).toNat≠32))=true
    rw [show plainC (l.getD q 0)=true from decide_eq_true (by assumption),decide_eq_true (by omega)]
    rfl
   ·exact ee
 ·obtain rfl:q=l.length:=by omega
  rw [List.take_length] at hqa
  rw [show bareI l=!decide (sB l=⟨#[]⟩) by unfold bareI;rw [hqa,Bool.and_true,← decide_not];exact decide_eq_decide.2 (not_congr sB_inj.symm)]
  exact po
theorem byt_at {a:UInt8} {q:Nat} (hq:q<5) (h:a.toNat=escL.getD (2*q+1) 0):∃ c:UInt8,bytI a=some c∧c.toNat=escL.getD (2*q) 0:=by
 rcases q with _ | _ | _ | _ | _ | q
 all_goals first
  | (unfold bytI;rw [h];exact ⟨_,rfl,rfl⟩)
  | omega
theorem byt_no {a:UInt8} (h:∀ j,j<5→a.toNat≠escL.getD (2*j+1) 0):bytI a=none:=by
 unfold bytI
 rw [if_neg (show a.toNat≠34 from h 0 (by decide)),if_neg (show a.toNat≠92 from h 1 (by decide)),if_neg (show a.toNat≠110 from h 2 (by decide)),if_neg (show a.toNat≠114 from h 3 (by decide)),if_neg (show a.toNat≠116 from h 4 (by decide))]
theorem orv {x y:Nat} (hx:x<16) (hy:y<16):((((x:Int)*2 ^ Int.toNat 4).toNat ||| (y:Int).toNat:Nat):Int) % 256=((UInt8.ofNat (16*x+y)).toNat:Nat):=by
 have key:∀ a b:Fin 16,((((a.1:Int)*2 ^ Int.toNat 4).toNat ||| (b.1:Int).toNat:Nat):Int) % 256=((UInt8.ofNat (16*a.1+b.1)).toNat:Nat):=by decide +kernel
 exact key ⟨x,hx⟩ ⟨y,hy⟩
theorem ixh (c:UInt8):∃ z:Int,Lib.indexByte hexL c=z∧(idxH c=none∧z = -1∨∃ x:Nat,x<16∧idxH c=some x∧z=x):=by
 have key:∀ c:UInt8,Lib.indexByte hexL c=(match idxH c with | some x=>(x:Int) | none=>-1):=by
  refine fin_all ?_
  decide +kernel
 refine ⟨_,key c,?_⟩
 cases h:idxH c with
 | none=>exact .inl ⟨rfl,rfl⟩
 | some x=>exact .inr ⟨x,(hex_idx c x h).1,rfl,rfl⟩
theorem ixh_c (c:UInt8) (z:Int) (h:Lib.indexByte hexL c=z):Con Tryz.prog 173 [.o (.c (.string (sB hexL))),.o (.c (.int .u8 c.toNat))] [] 0 0 U (fun _=>.o (.c (.int .i64 z))) G0:=h ▸ ixb_c hexL c
theorem unesc_c (m:Int) (te:TypeId) (pe:Value) (l:Bs) (hl:l.length≤1000000):Con Tryz.prog 153 [.o (.c (.string (sB l)))] (glC m te pe) 4 4 U (fun _=>.t [.inl (.c (.int .u8 (unescI l).1.toNat)),.inl (.c (.int .i64 ((unescI l).2:Nat)))]) (fun _=>glC m te pe):=by
 match l,hl with
 | [],hl=>
  refine con_of Tryz.func153 rfl (by kernel_rfl) Tryz.ntmps153 rfl (by first | exact Nat.zero_le _ | decide) (fun _=>⟨rfl,rfl⟩) fun w S ν=>?_
  refine wc ?_
  exact po
 | a :: r,hl=>
 refine con_of Tryz.func153 rfl (by kernel_rfl) Tryz.ntmps153 rfl (by first | exact Nat.zero_le _ | decide) (fun _=>⟨rfl,rfl⟩) fun w S ν=>?_
 have hz:(sB (a :: r)).size=r.length+1:=sB_size _
 have hz2:r.length+1≤1000000:=hl
 (repeat (with_reducible first|refine stp ?_|refine tD rfl ?_))
 ((refine rg ?_ ?_);try (with_reducible refine AllP.go ?_;first|exact og|((try simp only [OS]);repeat' (first|exact oj|refine And.intro ?_ ?_))))
 (repeat (with_reducible first|refine stp ?_|refine tD rfl ?_))
 ((refine rg ?_ ?_);try (with_reducible refine AllP.go ?_;first|exact og|((try simp only [OS]);repeat' (first|exact oj|refine And.intro ?_ ?_))))
 (repeat (with_reducible first|refine stp ?_|refine tD rfl ?_))
 (refine TE.cond_split (by rfl) ?_ ?_<;>intro h<;>(try simp only [NS] at h)<;>(try (exfalso;first | omega | exact h trivial | exact h | exact h rfl | contradiction)))
 (repeat (with_reducible first|refine stp ?_|refine tD rfl ?_))
 refine TE.region ?_
 (refine TE.step rfl rfl rfl (fun _ h=>nomatch h) (m_statLoad tysOk rfl rfl (by rfl) (by rfl)) ?_;rintro _ rfl)
 ((refine rn ?_ ?_);try (with_reducible refine AllP.go ?_;first|exact og|((try simp only [OS]);repeat' (first|exact oj|refine And.intro ?_ ?_))))
 (repeat (with_reducible first|refine stp ?_|refine tD rfl ?_))
 refine TE.loopG (fun q:Nat=>q≤5∧∀ j,j<q→a.toNat≠escL.getD (2*j+1) 0) (fun q=>[(12,.o (.c (.int .i64 q)))]) [] (fun _=>[]) (fun q=>5 - q) 0 (by rfl) ⟨Nat.zero_le _,fun _ h=>absurd h (Nat.not_lt_zero _)⟩ ?_ ?_
 ·exact ee
 rintro q ⟨hq,hqa⟩
 (repeat (with_reducible first|refine stp ?_|refine tD rfl ?_))
 ((refine rg ?_ ?_);try (with_reducible refine AllP.go ?_;first|exact og|((try simp only [OS]);repeat' (first|exact oj|refine And.intro ?_ ?_))))
 (repeat (with_reducible first|refine stp ?_|refine tD rfl ?_))
 (refine TE.cond_split (by rfl) ?_ ?_<;>intro h<;>(try simp only [NS] at h)<;>(try (exfalso;first | omega | exact h trivial | exact h | exact h rfl | contradiction)))
 ·rcases q with _ | _ | _ | _ | _ | q
  all_goals try (exfalso;omega)
  all_goals (repeat (with_reducible first|refine stp ?_|refine tD rfl ?_))
  all_goals refine TE.region ?_
  all_goals (refine TE.step rfl rfl rfl (fun _ h=>nomatch h) (m_aggIdx tysOk rfl (Tryz.underlying172) rfl rfl rfl rfl (by rfl) ?_) ?_;rotate_left;rintro _ rfl;rotate_right)
  all_goals try (first | exact trivial | exact fun i _=>⟨_,rfl⟩ | ((try simp only [OS]);repeat' (first | omega | exact fun i _=>⟨_,rfl⟩ | refine And.intro ?_ ?_)))
  all_goals ((refine rn ?_ ?_);try (with_reducible refine AllP.go ?_;first|exact og|((try simp only [OS]);repeat' (first|exact oj|refine And.intro ?_ ?_))))
  all_goals (repeat (with_reducible first|refine stp ?_|refine tD rfl ?_))
  all_goals ((refine dn ?_);repeat' (first|(with_reducible refine AllP.go ?_;first|exact og|((try simp only [OS]);repeat' (first|exact oj|refine And.intro ?_ ?_)))|(with_reducible first|exact PanicOk.body|exact rd.panic|refine PanicOk.then' ?_|refine PanicOk.block ?_|refine PanicOk.jump ?_)|(refine TL.done (by rfl) ?_)|(refine TL.auto tysOk rfl ?_ (by rfl) ?_ ?_)|((refine TL.one (by rfl) ?_);first|(refine sm ?_ ?_)|(refine sp ?_ ?_))|(refine sm ?_ ?_)|((first|refine gl ?_ ?_|refine gc ?_ ?_)<;>intro h<;>(try simp only [NS] at h)<;>(try exact xf))))
  all_goals (repeat (with_reducible first|refine stp ?_|refine tD rfl ?_))
  ·refine wc ?_
   obtain ⟨c1,hc1,hc2⟩:=byt_at (a:=a) (q:=0) (by decide) h.symm
   have hr:unescI (a :: r)=(c1,1):=by unfold unescI;dsimp only;rw [hc1]
   rw [show (unescI (a :: r)).1.toNat=escL.getD (2*0) 0 by rw [hr];exact hc2,show (unescI (a :: r)).2=1 by rw [hr]]
   exact po
  ·refine wc ?_
   refine TE.again' 1 ⟨by decide,fun j hj=>?_⟩ (by decide) ?_
   ·by_cases hj2:j=0
    ·subst hj2
     exact fun hh=>h hh.symm
    ·exact hqa j (by omega)
   ·exact ee
  ·refine wc ?_
   obtain ⟨c1,hc1,hc2⟩:=byt_at (a:=a) (q:=1) (by decide) h.symm
   have hr:unescI (a :: r)=(c1,1):=by unfold unescI;dsimp only;rw [hc1]
   rw [show (unescI (a :: r)).1.toNat=escL.getD (2*1) 0 by rw [hr];exact hc2,show (unescI (a :: r)).2=1 by rw [hr]]
   exact po
  ·refine wc ?_
   refine TE.again' 2 ⟨by decide,fun j hj=>?_⟩ (by decide) ?_
   ·by_cases hj2:j=1
    ·subst hj2
     exact fun hh=>h hh.symm
    ·exact hqa j (by omega)
   ·exact ee
  ·refine wc ?_
   obtain ⟨c1,hc1,hc2⟩:=byt_at (a:=a) (q:=2) (by decide) h.symm
   have hr:unescI (a :: r)=(c1,1):=by unfold unescI;dsimp only;rw [hc1]
   rw [show (unescI (a :: r)).1.toNat=escL.getD (2*2) 0 by rw [hr];exact hc2,show (unescI (a :: r)).2=1 by rw [hr]]
   exact po
  ·refine wc ?_
   refine TE.again' 3 ⟨by decide,fun j hj=>?_⟩ (by decide) ?_
   ·by_cases hj2:j=2
    ·subst hj2
     exact fun hh=>h hh.symm
    ·exact hqa j (by omega)
   ·exact ee
  ·refine wc ?_
   obtain ⟨c1,hc1,hc2⟩:=byt_at (a:=a) (q:=3) (by decide) h.symm
   have hr:unescI (a :: r)=(c1,1):=by unfold unescI;dsimp only;rw [hc1]
   rw [show (unescI (a :: r)).1.toNat=escL.getD (2*3) 0 by rw [hr];exact hc2,show (unescI (a :: r)).2=1 by rw [hr]]
   exact po
  ·refine wc ?_
   refine TE.again' 4 ⟨by decide,fun j hj=>?_⟩ (by decide) ?_
   ·by_cases hj2:j=3
    ·subst hj2
     exact fun hh=>h hh.symm
    ·exact hqa j (by omega)
   ·exact ee
  ·refine wc ?_
   obtain ⟨c1,hc1,hc2⟩:=byt_at (a:=a) (q:=4) (by decide) h.symm
   have hr:unescI (a :: r)=(c1,1):=by unfold unescI;dsimp only;rw [hc1]
   rw [show (unescI (a :: r)).1.toNat=escL.getD (2*4) 0 by rw [hr];exact hc2,show (unescI (a :: r)).2=1 by rw [hr]]
   exact po
  ·refine wc ?_
   refine TE.again' 5 ⟨by decide,fun j hj=>?_⟩ (by decide) ?_
   ·by_cases hj2:j=4
    ·subst hj2
     exact fun hh=>h hh.symm
    ·exact hqa j (by omega)
   ·exact ee
 ·have hn:=byt_no (a:=a) (fun j hj=>hqa j (by omega))
  (repeat (with_reducible first|refine stp ?_|refine tD rfl ?_))
  match r,hz,hz2,hl with
  | [],hz,hz2,hl=>
   have hr:unescI [a]=(0,0):=by unfold unescI;dsimp only;rw [hn];dsimp only;split<;>rfl
   rw [hr]
   have hz:(sB [a]).size=1:=hz
   (repeat' (first|(with_reducible refine AllP.go ?_;first|exact og|((try simp only [OS]);repeat' (first|exact oj|refine And.intro ?_ ?_)))|(refine rg ?_ ?_)|(with_reducible first|refine stp ?_|refine tD rfl ?_)|(with_reducible first|exact PanicOk.body|exact rd.panic|refine PanicOk.then' ?_|refine PanicOk.block ?_|refine PanicOk.jump ?_)|(refine dc ?_)|(refine dn ?_)|(refine TL.done (by rfl) ?_)|(refine TL.auto tysOk rfl ?_ (by rfl) ?_ ?_)|((refine TL.one (by rfl) ?_);first|(refine sm ?_ ?_)|(refine sp ?_ ?_))|(refine sm ?_ ?_)|refine ct ?_|refine cf ?_|((first|refine gs ?_ ?_|refine gl ?_ ?_|refine gc ?_ ?_)<;>intro h<;>(try simp only [NS] at h)<;>(try exact xf)<;>(try refine rn ?_ ?_))))
   all_goals exact po
  | [b1],hz,hz2,hl=>
   have hr:unescI [a,b1]=(0,0):=by unfold unescI;dsimp only;rw [hn];dsimp only;split<;>rfl
   rw [hr]
   have hz:(sB [a,b1]).size=2:=hz
   (repeat' (first|(with_reducible refine AllP.go ?_;first|exact og|((try simp only [OS]);repeat' (first|exact oj|refine And.intro ?_ ?_)))|(refine rg ?_ ?_)|(with_reducible first|refine stp ?_|refine tD rfl ?_)|(with_reducible first|exact PanicOk.body|exact rd.panic|refine PanicOk.then' ?_|refine PanicOk.block ?_|refine PanicOk.jump ?_)|(refine dc ?_)|(refine dn ?_)|(refine TL.done (by rfl) ?_)|(refine TL.auto tysOk rfl ?_ (by rfl) ?_ ?_)|((refine TL.one (by rfl) ?_);first|(refine sm ?_ ?_)|(refine sp ?_ ?_))|(refine sm ?_ ?_)|refine ct ?_|refine cf ?_|((first|refine gs ?_ ?_|refine gl ?_ ?_|refine gc ?_ ?_)<;>intro h<;>(try simp only [NS] at h)<;>(try exact xf)<;>(try refine rn ?_ ?_))))
   all_goals exact po
  | b1 :: b2 :: r,hz,hz2,hl=>
   have hz:(sB (a :: b1 :: b2 :: r)).size=r.length+3:=hz
   (repeat' (first|(with_reducible refine AllP.go ?_;first|exact og|((try simp only [OS]);repeat' (first|exact oj|refine And.intro ?_ ?_)))|(refine rg ?_ ?_)|(with_reducible first|refine stp ?_|refine tD rfl ?_)|refine ct ?_|refine cf ?_|((first|refine gs ?_ ?_|refine gl ?_ ?_|refine gc ?_ ?_)<;>intro h<;>(try simp only [NS] at h)<;>(try exact xf)<;>(try refine rn ?_ ?_))))
   ·have hr:unescI (a :: b1 :: b2 :: r)=(0,0):=by
     unfold unescI;dsimp only;rw [hn];dsimp only;rw [if_pos (show a.toNat≠120 from fun e=>h (congrArg Nat.cast e))]
    rw [hr]
    exact po
   ·obtain rfl:a=120:=UInt8.toNat_inj.1 (by rename_i hh;exact Int.ofNat.inj hh)
    obtain ⟨z1,hz1,hx1⟩:=ixh b1
    obtain ⟨z2,hz2,hx2⟩:=ixh b2
    have hb1 : -1≤z1∧z1≤15:=by rcases hx1 with ⟨_,e⟩ | ⟨x,e1,_,e2⟩<;>omega
    have hb2 : -1≤z2∧z2≤15:=by rcases hx2 with ⟨_,e⟩ | ⟨x,e1,_,e2⟩<;>omega
    refine wg ?_
    refine StepL.callW (ixh_c b1 z1 hz1) rfl rfl rfl rfl rfl (by rfl) (by (first|exact trivial|((with_reducible refine AllP.go ?_);dsimp only [AllP,appP];repeat' (first|refine And.intro ?_ ?_|exact zz|assumption)))) (by rfl) (by rfl) ?_
    intro _ _
    refine wf ?_
    refine StepL.callW (ixh_c b2 z2 hz2) rfl rfl rfl rfl rfl (by rfl) (by (first|exact trivial|((with_reducible refine AllP.go ?_);dsimp only [AllP,appP];repeat' (first|refine And.intro ?_ ?_|exact zz|assumption)))) (by rfl) (by rfl) ?_
    intro _ _
    refine wf ?_
    have hr:unescI (120 :: b1 :: b2 :: r)=match idxH b1,idxH b2 with | some x,some y=>(if plainC (UInt8.ofNat (16*x+y))=true∨ltrI (UInt8.ofNat (16*x+y))≠0 then (0,0) else (UInt8.ofNat (16*x+y),3)) | _,_=>(0,0):=unesc_x ..
    (repeat' (first|(with_reducible refine AllP.go ?_;first|exact og|((try simp only [OS]);repeat' (first|exact oj|refine And.intro ?_ ?_)))|(refine rg ?_ ?_)|(with_reducible first|refine stp ?_|refine tD rfl ?_)|refine ct ?_|refine cf ?_|((first|refine gs ?_ ?_|refine gl ?_ ?_|refine gc ?_ ?_)<;>intro h<;>(try simp only [NS] at h)<;>(try exact xf)<;>(try refine rn ?_ ?_))))
    ·rw [show unescI (120 :: b1 :: b2 :: r)=(0,0) by rw [hr,(hx1.resolve_right fun ⟨x,k1,_,k2⟩=>by omega).1]]
     exact po
    ·obtain ⟨x,k1,k2,k3⟩:=hx1.resolve_left (fun k=>by omega)
     rw [show unescI (120 :: b1 :: b2 :: r)=(0,0) by rw [hr,(hx2.resolve_right fun ⟨x,k1,_,k2⟩=>by omega).1,k2]]
     exact po
    ·obtain ⟨x,k1,k2,rfl⟩:=hx1.resolve_left (fun k=>by omega)
     obtain ⟨y,k4,k5,rfl⟩:=hx2.resolve_left (fun k=>by omega)
     rw [k2,k5] at hr
     dsimp only at hr
     (refine TE.step rfl rfl rfl (fun _ h=>nomatch h) (m_shlI rfl rfl rfl (by decide) ?_) ?_;rotate_left;rintro _ rfl;rotate_right)
     ·show -9223372036854775808≤(x:Int)*16∧(x:Int)*16≤9223372036854775807
      omega
     (refine TE.step rfl rfl rfl (fun _ h=>nomatch h) (m_pure tysOk rfl ?_) ?_;rotate_left;rintro _ rfl;rotate_right;(with_reducible refine AllP.go ?_;first|exact og|((try simp only [OS]);repeat' (first|exact oj|refine And.intro ?_ ?_))))
     (refine TE.step rfl rfl rfl (fun _ h=>nomatch h) (m_orI rfl rfl rfl ?_ ?_) ?_;rotate_left 2;rintro _ rfl;rotate_right 2)
     ·show 0≤(x:Int)*16∧(x:Int)*16<9223372036854775808
      omega
     ·omega
     ((refine rn ?_ ?_);try (with_reducible refine AllP.go ?_;first|exact og|((try simp only [OS]);repeat' (first|exact oj|refine And.intro ?_ ?_))))
     (repeat (with_reducible first|refine stp ?_|refine tD rfl ?_))
     rw [orv k1 k4]
     generalize UInt8.ofNat (16*x+y)=c0 at *
     refine wa ?_
     refine cw (wplain_c c0) ?_
     intro _ _
     ((refine rn ?_ ?_);(repeat' (first|(with_reducible refine AllP.go ?_;first|exact og|((try simp only [OS]);repeat' (first|exact oj|refine And.intro ?_ ?_)))|(refine rg ?_ ?_)|(with_reducible first|refine stp ?_|refine tD rfl ?_)|refine ct ?_|refine cf ?_|((first|refine gs ?_ ?_|refine gl ?_ ?_|refine gc ?_ ?_)<;>intro h<;>(try simp only [NS] at h)<;>(try exact xf)<;>(try refine rn ?_ ?_)))))
     ·rw [show unescI (120 :: b1 :: b2 :: r)=(0,0) by rw [hr,if_pos (.inl (decide_eq_true (by assumption)))]]
      exact po
     ·refine cw (ltr_c m te pe c0) ?_
      intro _ _
      ((refine rn ?_ ?_);(repeat' (first|(with_reducible refine AllP.go ?_;first|exact og|((try simp only [OS]);repeat' (first|exact oj|refine And.intro ?_ ?_)))|(refine rg ?_ ?_)|(with_reducible first|refine stp ?_|refine tD rfl ?_)|refine ct ?_|refine cf ?_|((first|refine gs ?_ ?_|refine gl ?_ ?_|refine gc ?_ ?_)<;>intro h<;>(try simp only [NS] at h)<;>(try exact xf)<;>(try refine rn ?_ ?_)))))
      ·rw [show unescI (120 :: b1 :: b2 :: r)=(0,0) by rw [hr,if_pos (.inr (fun e=>by rw [e] at h;exact h rfl))]]
       exact po
      ·rw [show unescI (120 :: b1 :: b2 :: r)=(c0,3) by rw [hr,if_neg (fun e=>e.elim (fun e=>by have:=of_decide_eq_true e;contradiction) (fun e=>e (UInt8.toNat_inj.1 (Int.ofNat.inj h))))]]
       exact po
theorem unesc_3 (s:Bs):(unescI s).2≤3:=by
 unfold unescI
 repeat' split
 all_goals simp
theorem unq_c (m:Int) (te:TypeId) (pe:Value) (l:Bs) (hl:l.length≤1000000):Con Tryz.prog 135 [.o (.c (.string (sB l)))] (glC m te pe) 4 4 U (fun _=>.t [.inl (.c (.string (sB (unqI l).1))),.inl (.c (.int .i64 ((unqI l).2:Nat)))]) (fun _=>glC m te pe):=by
 refine con_of Tryz.func135 rfl (by kernel_rfl) Tryz.ntmps135 rfl (by first | exact Nat.zero_le _ | decide) (fun _=>⟨rfl,rfl⟩) fun w S ν=>?_
 have hz:(sB l).size=l.length:=sB_size _
 (repeat' (first|(with_reducible refine AllP.go ?_;first|exact og|((try simp only [OS]);repeat' (first|exact oj|refine And.intro ?_ ?_)))|(refine rg ?_ ?_)|(with_reducible first|refine stp ?_|refine tD rfl ?_)|refine ct ?_|refine cf ?_|((first|refine gs ?_ ?_|refine gl ?_ ?_|refine gc ?_ ?_)<;>intro h<;>(try simp only [NS] at h)<;>(try exact xf)<;>(try refine rn ?_ ?_))))
 ·have:l=[]:=List.length_eq_zero_iff.1 (by omega)
  subst this
  exact po
 ·rw [show unqI l=([],0) by
   match l with
   | []=>rfl
   | a :: r=>exact if_neg (fun e=>h (congrArg Nat.cast e))]
  exact po
 have h1:unqI l=finQ [] 1 (unqG (l.drop 1)):=by
  match l with
  | []=>exact absurd rfl (by assumption)
  | a :: r=>exact if_pos (Int.ofNat.inj h)
 refine TE.nilOwn 4 5 1 (by rfl) ?_
 (refine TE.only [5,4,3,2,0] (by rfl) ?_)
 refine TE.loopG (fun p:Nat×Bs=>1≤p.1∧p.1≤l.length∧p.2.length≤p.1∧finQ p.2 p.1 (unqG (l.drop p.1))=unqI l) (fun p=>[(5,.o (.c (.int .i64 p.1))),(4,.o (.own 4))]) [4] (fun p=>[.own 4 5 1 (bytesC p.2)]) (fun p=>l.length - p.1) (1,[]) (by rfl) ⟨Nat.le_refl _,by omega,Nat.zero_le _,h1.symm⟩ ?_ ?_
 ·(refine Ent.of rfl rfl (by rfl) ?_;(try (first|exact trivial|((with_reducible refine AllP.go ?_);dsimp only [AllP,appP];repeat' (first|refine And.intro ?_ ?_|exact zz)))))
  exact LeDC.nil rfl rfl
 rintro ⟨i,out⟩ ⟨g1,g2,g3,g4⟩
 dsimp only at g1 g2 g3 g4
 have hu3:=unesc_3 (l.drop (i+1))
 have hle:=dec_le (l.drop i)
 rw [List.length_drop] at hle
 have hx:Value.string ((sB l).extract ((i:Int)+1).toNat ((sB l).size:Int).toNat)=Value.string (sB (l.drop (i+1))):=by
  rw [sB_ext,List.take_of_length_le (by rw [List.length_drop,hz];omega)]
  rfl
 (repeat' (first|(with_reducible refine AllP.go ?_;first|exact og|((try simp only [OS]);repeat' (first|exact oj|refine And.intro ?_ ?_)))|(refine rg ?_ ?_)|(with_reducible first|refine stp ?_|refine tD rfl ?_)|refine ct ?_|refine cf ?_|((first|refine gs ?_ ?_|refine gl ?_ ?_|refine gc ?_ ?_)<;>intro h<;>(try simp only [NS] at h)<;>(try exact xf)<;>(try refine rn ?_ ?_))))
 ·have g5:unqI l=(out,i+1):=by
   rw [← g4,unqG_q (by omega) (by omega)]
   show (out++[],i+1)=_
   rw [List.append_nil]
  rw [g5]
  (refine TE.ret' io rfl tysOk (()) ?_ rfl (by rfl) ?_;all_goals (try (first|exact trivial|((with_reducible refine AllP.go ?_);dsimp only [AllP,appP];repeat' (first|refine And.intro ?_ ?_|exact zz)))))
  exact congrArg Value.string (cb_str out)
 ·have hdr:decI1 (l.drop i)=if (unescI (l.drop (i+1))).2=0 then (0,0) else ((unescI (l.drop (i+1))).1,(unescI (l.drop (i+1))).2+1):=by
   rw [drop_at (by omega),show l.getD i 0=92 from UInt8.toNat_inj.1 (by show _=92;omega)]
   exact dec_bs _
  refine cw (unesc_c m te pe (l.drop (i+1)) (by rw [List.length_drop];omega)) ?_
  intro _ _
  ((refine rn ?_ ?_);(repeat' (first|(with_reducible refine AllP.go ?_;first|exact og|((try simp only [OS]);repeat' (first|exact oj|refine And.intro ?_ ?_)))|(refine rg ?_ ?_)|(with_reducible first|refine stp ?_|refine tD rfl ?_)|refine ct ?_|refine cf ?_|((first|refine gs ?_ ?_|refine gl ?_ ?_|refine gc ?_ ?_)<;>intro h<;>(try simp only [NS] at h)<;>(try exact xf)<;>(try refine rn ?_ ?_)))))
  ·have g5:unqI l=([],0):=by
    rw [← g4,unqG_no (by omega) (by omega) (by rw [hdr,if_pos (by omega)])]
    rfl
   rw [g5]
   exact po
  ·rw [if_neg (by omega)] at hdr
   rw [hdr] at hle
   dsimp only at hle
   refine TE.again' (i+((unescI (l.drop (i+1))).2+1),out++[(unescI (l.drop (i+1))).1]) ⟨by dsimp only;omega,by dsimp only;omega,by simp;omega,?_⟩ (by dsimp only;omega) ?_
   ·rw [← g4,unqG_yes (by omega) (by omega) (by rw [hdr];exact Nat.succ_ne_zero _) out,hdr]
   ·(refine Ent.of rfl rfl (by rfl) ?_;(try (first|exact trivial|((with_reducible refine AllP.go ?_);dsimp only [AllP,appP];repeat' (first|refine And.intro ?_ ?_|exact zz)))))
    exact bytes_app (LeDC.refl _ _) (byte_lit rfl) rfl
 ·have hdr:decI1 (l.drop i)=if plainC (l.getD i 0)=true then (l.getD i 0,1) else (0,0):=by
   rw [drop_at (by omega)]
   exact if_neg (by omega)
  refine cw (wplain_c (l.getD i 0)) ?_
  intro _ _
  ((refine rn ?_ ?_);(repeat' (first|(with_reducible refine AllP.go ?_;first|exact og|((try simp only [OS]);repeat' (first|exact oj|refine And.intro ?_ ?_)))|(refine rg ?_ ?_)|(with_reducible first|refine stp ?_|refine tD rfl ?_)|refine ct ?_|refine cf ?_|((first|refine gs ?_ ?_|refine gl ?_ ?_|refine gc ?_ ?_)<;>intro h<;>(try simp only [NS] at h)<;>(try exact xf)<;>(try refine rn ?_ ?_)))))
  ·rw [if_pos (decide_eq_true (by assumption))] at hdr
   refine TE.again' (i+1,out++[l.getD i 0]) ⟨by dsimp only;omega,by dsimp only;omega,by simp;omega,?_⟩ (by dsimp only;omega) ?_
   ·rw [← g4,unqG_yes (by omega) (by omega) (by rw [hdr];exact Nat.succ_ne_zero _) out,hdr]
   ·(refine Ent.of rfl rfl (by rfl) ?_;(try (first|exact trivial|((with_reducible refine AllP.go ?_);dsimp only [AllP,appP];repeat' (first|refine And.intro ?_ ?_|exact zz)))))
    exact bytes_app (LeDC.refl _ _) (byte_lit rfl) rfl
  ·rw [if_neg (fun e=>by have:=of_decide_eq_true e;contradiction)] at hdr
   have g5:unqI l=([],0):=by
    rw [← g4,unqG_no (by omega) (by omega) (by rw [hdr])]
    rfl
   rw [g5]
   exact po
 ·obtain rfl:i=l.length:=by omega
  have g5:unqI l=([],0):=by
   rw [← g4,List.drop_length,unqG_nil]
   rfl
  rw [g5]
  exact po
end Go.Proofs.YtalmoocpebhoiaaGreatDoor.Am
namespace Go.Proofs.YtalmoocpebhoiaaGreatDoor.Wo
end Go.Proofs.YtalmoocpebhoiaaGreatDoor.Wo
namespace Go.Proofs.YtalmoocpebhoiaaGreatDoor.Am
open Go.RowKit Lw Wo
end Go.Proofs.YtalmoocpebhoiaaGreatDoor.Am
namespace Go.Proofs.YtalmoocpebhoiaaGreatDoor.Am
open Go.RowKit Lw Wo
theorem hex_c (n:Nat) (h:n<16):Con Tryz.prog 130 [.o (.c (.int .u8 n))] [] 0 0 U (fun _=>.o (.c (.int .u8 (hexC n).toNat))) G0:=by
 refine con_of Tryz.func130 rfl (by kernel_rfl) Tryz.ntmps130 rfl (by first | exact Nat.zero_le _ | decide) (fun _=>⟨rfl,rfl⟩) fun w S ν=>?_
 (repeat' (first|(with_reducible refine AllP.go ?_;first|exact og|((try simp only [OS]);repeat' (first|exact oj|refine And.intro ?_ ?_)))|(refine rg ?_ ?_)|(with_reducible first|refine stp ?_|refine tD rfl ?_)|(with_reducible first|exact PanicOk.body|exact rd.panic|refine PanicOk.then' ?_|refine PanicOk.block ?_|refine PanicOk.jump ?_)|(refine dc ?_)|(refine dn ?_)|(refine TL.done (by rfl) ?_)|(refine TL.auto tysOk rfl ?_ (by rfl) ?_ ?_)|((refine TL.one (by rfl) ?_);first|(refine sm ?_ ?_)|(refine sp ?_ ?_))|(refine sm ?_ ?_)|refine ct ?_|refine cf ?_|((first|refine gs ?_ ?_|refine gl ?_ ?_|refine gc ?_ ?_)<;>intro h<;>(try simp only [NS] at h)<;>(try exact xf)<;>(try refine rn ?_ ?_))))
 ·show (n:Int)<16
  omega
 exact po
theorem lit2_ok {y z:UInt8}:∀ i,i<0+1+1→∃ b:UInt8,(litC [[DC.c (Value.int IntKind.u8 y.toNat)],[DC.c (Value.int IntKind.u8 z.toNat)]]).cell i 0=DC.c (Value.int IntKind.u8 (b.toNat:Nat)):=by
 intro i hi
 rcases i with _ | _ | i
 ·exact ⟨y,rfl⟩
 ·exact ⟨z,rfl⟩
 ·omega
theorem lit2_str (y z:UInt8):ByteArray.mk (ctBytes (0+1+1) (litC [[DC.c (Value.int IntKind.u8 y.toNat)],[DC.c (Value.int IntKind.u8 z.toNat)]]).cell).toArray=sB [y,z]:=by
 refine congrArg (fun l:Bs=>ByteArray.mk l.toArray) ?_
 show [UInt8.ofNat ((y.toNat:Int)).toNat,UInt8.ofNat ((z.toNat:Int)).toNat]=[y,z]
 simp
theorem lit2_sz (y z:Int):(ByteArray.mk (ctBytes (0+1+1) (litC [[DC.c (Value.int IntKind.u8 y)],[DC.c (Value.int IntKind.u8 z)]]).cell).toArray).size=2:=rfl
theorem esc_c (c:UInt8):Con Tryz.prog 108 [.o (.c (.int .u8 c.toNat))] [] 0 0 U (fun _=>.o (.c (.string (sB (escI c))))) G0:=by
 refine con_of Tryz.func108 rfl (by kernel_rfl) Tryz.ntmps108 rfl (by first | exact Nat.zero_le _ | decide) (fun _=>⟨rfl,rfl⟩) fun w S ν=>?_
 have hc:=c.toNat_lt
 refine wa ?_
 refine cw (rplain_c c) ?_
 intro _ _
 ((refine rn ?_ ?_);(repeat' (first|(with_reducible refine AllP.go ?_;first|exact og|((try simp only [OS]);repeat' (first|exact oj|refine And.intro ?_ ?_)))|(refine rg ?_ ?_)|(with_reducible first|refine stp ?_|refine tD rfl ?_)|refine ct ?_|refine cf ?_|((first|refine gs ?_ ?_|refine gl ?_ ?_|refine gc ?_ ?_)<;>intro h<;>(try simp only [NS] at h)<;>(try exact xf)<;>(try refine rn ?_ ?_)))))
 ·exact lit1_ok ⟨by omega,by omega⟩
 ·rw [esc_p (decide_eq_true h)]
  (refine TE.ret' io rfl tysOk (()) ?_ rfl (by rfl) ?_;all_goals (try (first|exact trivial|((with_reducible refine AllP.go ?_);dsimp only [AllP,appP];repeat' (first|refine And.intro ?_ ?_|exact zz)))))
  exact congrArg Value.string ((lit1_str _).trans (by simp))
 ·obtain rfl:c=34:=UInt8.toNat_inj.1 (Int.ofNat.inj h)
  rw [show escI 34=[92,34] by decide]
  exact po
 ·obtain rfl:c=92:=UInt8.toNat_inj.1 (Int.ofNat.inj h)
  rw [show escI 92=[92,92] by decide]
  exact po
 ·obtain rfl:c=10:=UInt8.toNat_inj.1 (Int.ofNat.inj h)
  rw [show escI 10=[92,110] by decide]
  exact po
 ·obtain rfl:c=13:=UInt8.toNat_inj.1 (Int.ofNat.inj h)
  rw [show escI 13=[92,114] by decide]
  exact po
 ·obtain rfl:c=9:=UInt8.toNat_inj.1 (Int.ofNat.inj h)
  rw [show escI 9=[92,116] by decide]
  exact po
 refine cw (hex_c (c.toNat / 16) (by omega)) ?_
 intro _ _
 refine wb ?_
 refine cw (hex_c (c.toNat % 16) (by omega)) ?_
 intro _ _
 have hsz:=lit2_sz (hexC (c.toNat / 16)).toNat (hexC (c.toNat % 16)).toNat
 have hs2:(⟨#[92,120]⟩:ByteArray).size=2:=rfl
 ((refine rn ?_ ?_);(repeat' (first|(with_reducible refine AllP.go ?_;first|exact og|((try simp only [OS]);repeat' (first|exact oj|refine And.intro ?_ ?_)))|(refine rg ?_ ?_)|(with_reducible first|refine stp ?_|refine tD rfl ?_)|refine ct ?_|refine cf ?_|((first|refine gs ?_ ?_|refine gl ?_ ?_|refine gc ?_ ?_)<;>intro h<;>(try simp only [NS] at h)<;>(try exact xf)<;>(try refine rn ?_ ?_)))))
 ·exact lit2_ok
 rw [esc_x (decide_eq_false (by assumption)) (by unfold ltrI;rw [if_neg (by omega),if_neg (by omega),if_neg (by omega),if_neg (by omega),if_neg (by omega)];rfl)]
 (refine TE.ret' io rfl tysOk (()) ?_ rfl (by rfl) ?_;all_goals (try (first|exact trivial|((with_reducible refine AllP.go ?_);dsimp only [AllP,appP];repeat' (first|refine And.intro ?_ ?_|exact zz)))))
 exact congrArg Value.string ((congrArg (sB [92,120] ++ ·) (lit2_str _ _)).trans (sB_app _ _))
theorem rbare_c (l:Bs) (hl:l.length≤1000000):Con Tryz.prog 72 [.o (.c (.string (sB l)))] [] 0 0 U (fun _=>.o (.sb (bareI l))) G0:=by
 refine con_of Tryz.func72 rfl (by kernel_rfl) Tryz.ntmps72 rfl (by first | exact Nat.zero_le _ | decide) (fun _=>⟨rfl,rfl⟩) fun w S ν=>?_
 have hz:=sB_size l
 refine wc ?_
 refine TE.loopG (fun q:Nat=>q≤l.length∧(l.take q).all bareC=true) (fun q=>[(3,.o (.c (.int .i64 q)))]) [] (fun _=>[]) (fun q=>l.length - q) 0 (by rfl) ⟨Nat.zero_le _,rfl⟩ ?_ ?_
 ·exact ee
 rintro q ⟨hq,hqa⟩
 have hst:=fun h=>all_step (p:=bareC) (l:=l) (q:=q) h
 have hno:=fun h=>all_no (p:=bareC) (l:=l) (q:=q) h
 (repeat' (first|(with_reducible refine AllP.go ?_;first|exact og|((try simp only [OS]);repeat' (first|exact oj|refine And.intro ?_ ?_)))|(refine rg ?_ ?_)|(with_reducible first|refine stp ?_|refine tD rfl ?_)|(with_reducible first|exact PanicOk.body|exact rd.panic|refine PanicOk.then' ?_|refine PanicOk.block ?_|refine PanicOk.jump ?_)|(refine dc ?_)|(refine dn ?_)|(refine TL.done (by rfl) ?_)|(refine TL.auto tysOk rfl ?_ (by rfl) ?_ ?_)|((refine TL.one (by rfl) ?_);first|(refine sm ?_ ?_)|(refine sp ?_ ?_))|(refine sm ?_ ?_)|refine ct ?_|refine cf ?_|((first|refine gs ?_ ?_|refine gl ?_ ?_|refine gc ?_ ?_)<;>intro h<;>(try simp only [NS] at h)<;>(try exact xf)<;>(try refine rn ?_ ?_))))
 ·refine cw (rplain_c (l.getD q 0)) ?_
  intro _ _
  ((refine rn ?_ ?_);(repeat' (first|(with_reducible refine AllP.go ?_;first|exact og|((try simp only [OS]);repeat' (first|exact oj|refine And.intro ?_ ?_)))|(refine rg ?_ ?_)|(with_reducible first|refine stp ?_|refine tD rfl ?_)|(with_reducible first|exact PanicOk.body|exact rd.panic|refine PanicOk.then' ?_|refine PanicOk.block ?_|refine PanicOk.jump ?_)|(refine dc ?_)|(refine dn ?_)|(refine TL.done (by rfl) ?_)|(refine TL.auto tysOk rfl ?_ (by rfl) ?_ ?_)|((refine TL.one (by rfl) ?_);first|(refine sm ?_ ?_)|(refine sp ?_ ?_))|(refine sm ?_ ?_)|refine ct ?_|refine cf ?_|((first|refine gs ?_ ?_|refine gl ?_ ?_|refine gc ?_ ?_)<;>intro h<;>(try simp only [NS] at h)<;>(try exact xf)<;>(try refine rn ?_ ?_)))))
  ·rw [show bareI l=false by unfold bareI;rw [hno (by omega) (by show (plainC _ && _)=false;rw [show plainC (l.getD q 0)=false from decide_eq_false (by assumption),Bool.false_and]),Bool.and_false]]
   exact po
  ·rw [show bareI l=false by unfold bareI;rw [hno (by omega) (by show (_ && decide ((l.getD q 0).toNat≠32))=false;rw [decide_eq_false (by omega),Bool.and_false]),Bool.and_false]]
   exact po
  ·refine TE.again' (q+1) ⟨by omega,?_⟩ (by omega) ?_
   ·rw [hst (by omega),hqa,Bool.true_and]
    show (plainC _ && decide ((l.getD q 0).toNat≠32))=true
    rw [show plainC (l.getD q 0)=true from decide_eq_true (by assumption),decide_eq_true (by omega)]
    rfl
   ·exact ee
 ·obtain rfl:q=l.length:=by omega
  rw [List.take_length] at hqa
  rw [show bareI l=decide (0<((sB l).size:Int)) by unfold bareI;rw [hqa,Bool.and_true];exact decide_eq_decide.2 ⟨fun e=>by have:=List.length_pos_iff.2 e;omega,fun e=>List.length_pos_iff.1 (by omega)⟩]
  exact po
theorem rQuote_c (l:Bs) (hl:l.length≤1000000):Con Tryz.prog 73 [.o (.c (.string (sB l)))] [] 0 0 U (fun _=>.o (.c (.string (sB (quoteI l))))) G0:=by
 refine con_of Tryz.func73 rfl (by kernel_rfl) Tryz.ntmps73 rfl (by first | exact Nat.zero_le _ | decide) (fun _=>⟨rfl,rfl⟩) fun w S ν=>?_
 have hz:=sB_size l
 refine wa ?_
 refine TE.drop 5 (by rfl) ?_
 refine TE.loopG (fun q:Nat=>q≤l.length) (fun q=>[(4,.o (.c (.int .i64 q))),(3,.o (.own 0))]) [0] (fun q=>[.own 0 5 1 (bytesC (34 :: (l.take q).flatMap escI))]) (fun q=>l.length - q) 0 (by rfl) (Nat.zero_le _) ?_ ?_
 ·(refine Ent.of rfl rfl (by rfl) ?_;(try (first|exact trivial|((with_reducible refine AllP.go ?_);dsimp only [AllP,appP];repeat' (first|refine And.intro ?_ ?_|exact zz)))))
  exact byte_lit (b:=34) rfl
 intro q hq
 have hfl:=escs_len (l.take q)
 have hfl2:(l.take q).length≤q:=List.length_take_le ..
 have hes:=sB_size (escI (l.getD q 0))
 have hel:=(esc_len (l.getD q 0)).2
 (repeat' (first|(with_reducible refine AllP.go ?_;first|exact og|((try simp only [OS]);repeat' (first|exact oj|refine And.intro ?_ ?_)))|(refine rg ?_ ?_)|(with_reducible first|refine stp ?_|refine tD rfl ?_)|refine ct ?_|refine cf ?_|((first|refine gs ?_ ?_|refine gl ?_ ?_|refine gc ?_ ?_)<;>intro h<;>(try simp only [NS] at h)<;>(try exact xf)<;>(try refine rn ?_ ?_))))
 ·refine cw (esc_c (l.getD q 0)) ?_
  intro _ _
  refine wb ?_
  refine TE.again' (q+1) (by omega) (by omega) ?_
  (refine Ent.of rfl rfl (by rfl) ?_;(try (first|exact trivial|((with_reducible refine AllP.go ?_);dsimp only [AllP,appP];repeat' (first|refine And.intro ?_ ?_|exact zz)))))
  exact bytes_app (LeDC.refl _ _) (str_lit _) (by rw [escs_snoc (by omega)];rfl)
 ·exact app1_ok (34 :: (l.take q).flatMap escI) 34
 ·obtain rfl:q=l.length:=by omega
  rw [List.take_length]
  (refine TE.ret' io rfl tysOk (()) ?_ rfl (by rfl) ?_;all_goals (try (first|exact trivial|((with_reducible refine AllP.go ?_);dsimp only [AllP,appP];repeat' (first|refine And.intro ?_ ?_|exact zz)))))
  exact congrArg Value.string (app1_str (34 :: l.flatMap escI) 34)
end Go.Proofs.YtalmoocpebhoiaaGreatDoor.Am
namespace Go.Proofs.YtalmoocpebhoiaaGreatDoor.Wo
theorem mat {s:Bs} {c:UInt8} (h:s.take (escI c).length=escI c):decI1 s=(c,(escI c).length):=by
 have e:s=escI c++s.drop (escI c).length:=by
  have:=(List.take_append_drop (escI c).length s).symm
  rw [h] at this
  exact this
 rw [e]
 exact dec_esc c _
theorem nomat {s:Bs} (h:∀ j,j<256→s.take (escI (UInt8.ofNat j)).length≠escI (UInt8.ofNat j)):(decI1 s).2=0:=by
 refine Decidable.byContradiction fun k=>?_
 obtain ⟨e,_⟩:=esc_dec k
 have:=h (decI1 s).1.toNat (decI1 s).1.toNat_lt
 rw [UInt8.ofNat_toNat] at this
 exact this ((congrArg (List.take _) e).trans List.take_left)
end Go.Proofs.YtalmoocpebhoiaaGreatDoor.Wo
namespace Go.Proofs.YtalmoocpebhoiaaGreatDoor.Am
open Go.RowKit Lw Wo
theorem rquo_c (l:Bs) (hl:l.length≤1000000):Con Tryz.prog 116 [.o (.c (.string (sB l)))] [] 0 0 U (fun _=>.t [.inl (.c (.string (sB (unqI l).1))),.inl (.c (.int .i64 ((unqI l).2:Nat)))]) G0:=by
 refine con_of Tryz.func116 rfl (by kernel_rfl) Tryz.ntmps116 rfl (by first | exact Nat.zero_le _ | decide) (fun _=>⟨rfl,rfl⟩) fun w S ν=>?_
 have hz:(sB l).size=l.length:=sB_size _
 (repeat' (first|(with_reducible refine AllP.go ?_;first|exact og|((try simp only [OS]);repeat' (first|exact oj|refine And.intro ?_ ?_)))|(refine rg ?_ ?_)|(with_reducible first|refine stp ?_|refine tD rfl ?_)|refine ct ?_|refine cf ?_|((first|refine gs ?_ ?_|refine gl ?_ ?_|refine gc ?_ ?_)<;>intro h<;>(try simp only [NS] at h)<;>(try exact xf)<;>(try refine rn ?_ ?_))))
 ·have:l=[]:=List.length_eq_zero_iff.1 (by omega)
  subst this
  exact po
 ·rw [show unqI l=([],0) by
   match l with
   | []=>rfl
   | a :: r=>exact if_neg (fun e=>h (congrArg Nat.cast e))]
  exact po
 have h1:unqI l=finQ [] 1 (unqG (l.drop 1)):=by
  match l with
  | []=>exact absurd rfl (by assumption)
  | a :: r=>exact if_pos (Int.ofNat.inj h)
 refine TE.nilOwn 4 5 1 (by rfl) ?_
 (refine TE.only [5,4,3,2,0] (by rfl) ?_)
 refine TE.loopG (fun p:Nat×Bs=>1≤p.1∧p.1≤l.length∧p.2.length≤p.1∧finQ p.2 p.1 (unqG (l.drop p.1))=unqI l) (fun p=>[(5,.o (.c (.int .i64 p.1))),(4,.o (.own 0))]) [0] (fun p=>[.own 0 5 1 (bytesC p.2)]) (fun p=>l.length - p.1) (1,[]) (by rfl) ⟨Nat.le_refl _,by omega,Nat.zero_le _,h1.symm⟩ ?_ ?_
 ·(refine Ent.of rfl rfl (by rfl) ?_;(try (first|exact trivial|((with_reducible refine AllP.go ?_);dsimp only [AllP,appP];repeat' (first|refine And.intro ?_ ?_|exact zz)))))
  exact LeDC.nil rfl rfl
 rintro ⟨i,out⟩ ⟨g1,g2,g3,g4⟩
 dsimp only at g1 g2 g3 g4
 have hle:=dec_le (l.drop i)
 rw [List.length_drop] at hle
 (repeat' (first|(with_reducible refine AllP.go ?_;first|exact og|((try simp only [OS]);repeat' (first|exact oj|refine And.intro ?_ ?_)))|(refine rg ?_ ?_)|(with_reducible first|refine stp ?_|refine tD rfl ?_)|refine ct ?_|refine cf ?_|((first|refine gs ?_ ?_|refine gl ?_ ?_|refine gc ?_ ?_)<;>intro h<;>(try simp only [NS] at h)<;>(try exact xf)<;>(try refine rn ?_ ?_))))
 ·(refine TE.only [7,6,5,4,3,2,0] (by rfl) ?_)
  refine TE.loopG (fun p:Nat×Bool×Nat×Bs=>p.1≤256∧(p.2.1=false∧p.2.2.1=i∧p.2.2.2=out∧(∀ j,j<p.1→(l.drop i).take (escI (UInt8.ofNat j)).length≠escI (UInt8.ofNat j))∨p.2.1=true∧(decI1 (l.drop i)).2≠0∧p.2.2.1=i+(decI1 (l.drop i)).2∧p.2.2.2=out++[(decI1 (l.drop i)).1])) (fun p=>[(7,.o (.c (.int .i64 p.1))),(6,.o (.sb p.2.1)),(5,.o (.c (.int .i64 p.2.2.1))),(4,.o (.own 0))]) [0] (fun p=>[.own 0 5 1 (bytesC p.2.2.2)]) (fun p=>256 - p.1) (0,false,i,out) (by rfl) ⟨Nat.zero_le _,.inl ⟨rfl,rfl,rfl,fun j hj=>absurd hj (Nat.not_lt_zero _)⟩⟩ ?_ ?_
  ·exact ee
  rintro ⟨k,f,i2,out2⟩ ⟨k1,kk⟩
  dsimp only at k1 kk
  (repeat' (first|(with_reducible refine AllP.go ?_;first|exact og|((try simp only [OS]);repeat' (first|exact oj|refine And.intro ?_ ?_)))|(refine rg ?_ ?_)|(with_reducible first|refine stp ?_|refine tD rfl ?_)|refine ct ?_|refine cf ?_|((first|refine gs ?_ ?_|refine gl ?_ ?_|refine gc ?_ ?_)<;>intro h<;>(try simp only [NS] at h)<;>(try exact xf)<;>(try refine rn ?_ ?_))))
  ·obtain ⟨e0,e1,e2,e3⟩:=kk.resolve_right (fun e=>by rw [e.1] at h;cases h)
   subst e0 e1 e2
   have hes:=sB_size (escI (UInt8.ofNat k))
   have hel:=esc_len (UInt8.ofNat k)
   have hv:Value.int .u8 ((k:Int) % 256)=Value.int .u8 ((UInt8.ofNat k).toNat:Nat):=by
    congr 1
   refine cw (esc_c (UInt8.ofNat k)) ?_
   intro _ _
   have hext:(sB l).extract i2 ((i2:Int)+((sB (escI (UInt8.ofNat k))).size:Int)).toNat=sB ((l.drop i2).take (escI (UInt8.ofNat k)).length):=by
    rw [sB_ext,hes,show ((i2:Int)+((escI (UInt8.ofNat k)).length:Int)).toNat - i2=(escI (UInt8.ofNat k)).length by omega]
   ((refine rn ?_ ?_);(repeat' (first|(with_reducible refine AllP.go ?_;first|exact og|((try simp only [OS]);repeat' (first|exact oj|refine And.intro ?_ ?_)))|(refine rg ?_ ?_)|(with_reducible first|refine stp ?_|refine tD rfl ?_)|refine ct ?_|refine cf ?_|((first|refine gs ?_ ?_|refine gl ?_ ?_|refine gc ?_ ?_)<;>intro h<;>(try simp only [NS] at h)<;>(try exact xf)<;>(try refine rn ?_ ?_)))))
   ·have hm:=sB_inj.1 (hext.symm.trans h)
    have hd:=mat hm
    refine TE.again' (k+1,true,i2+(escI (UInt8.ofNat k)).length,out2++[UInt8.ofNat k]) ⟨by dsimp only;omega,.inr ⟨rfl,by rw [hd];dsimp only;omega,by rw [hd],by rw [hd]⟩⟩ (by dsimp only;omega) ?_
    (refine Ent.of rfl rfl (by rfl) ?_;(try (first|exact trivial|((with_reducible refine AllP.go ?_);dsimp only [AllP,appP];repeat' (first|refine And.intro ?_ ?_|exact zz)))))
    exact bytes_app (LeDC.refl _ _) (byte_lit (Value.int.inj hv).2) rfl
   ·refine TE.again' (k+1,false,i2,out2) ⟨by dsimp only;omega,.inl ⟨rfl,rfl,rfl,fun j hj e=>?_⟩⟩ (by dsimp only;omega) ?_
    ·rcases Nat.lt_or_ge j k with hj2 | hj2
     ·exact e3 j hj2 e
     ·obtain rfl:j=k:=by dsimp only at hj;omega
      exact h (hext.trans (congrArg sB e))
    ·exact ee
   ·refine TE.again' (k+1,false,i2,out2) ⟨by dsimp only;omega,.inl ⟨rfl,rfl,rfl,fun j hj e=>?_⟩⟩ (by dsimp only;omega) ?_
    ·rcases Nat.lt_or_ge j k with hj2 | hj2
     ·exact e3 j hj2 e
     ·obtain rfl:j=k:=by dsimp only at hj;omega
      have:=congrArg List.length e
      rw [List.length_take,List.length_drop] at this
      omega
    ·exact ee
  ·exact absurd (show f=true by assumption) (by rw [h];decide)
  ·obtain ⟨_,d0,e1,e2⟩:=kk.resolve_left (fun e=>by rw [e.1] at h;cases h)
   refine TE.again' (i2,out2) ⟨by dsimp only;omega,by dsimp only;omega,by dsimp only;rw [e2,List.length_append];simp only [List.length_cons,List.length_nil];omega,?_⟩ (by dsimp only;omega) ?_
   ·rw [← g4,unqG_yes (by omega) (by omega) d0 out,e1,e2]
   ·exact ee
  ·obtain ⟨_,e1,e2,e3⟩:=kk.resolve_right (fun e=>by rw [e.1] at h;cases h)
   have g5:unqI l=([],0):=by
    rw [← g4,unqG_no (by omega) (by omega) (nomat fun j hj=>e3 j (by omega))]
    rfl
   rw [g5]
   exact po
  ·obtain ⟨_,d0,e1,e2⟩:=kk.resolve_left (fun e=>by rw [e.1] at h;cases h)
   refine TE.again' (i2,out2) ⟨by dsimp only;omega,by dsimp only;omega,by dsimp only;rw [e2,List.length_append];simp only [List.length_cons,List.length_nil];omega,?_⟩ (by dsimp only;omega) ?_
   ·rw [← g4,unqG_yes (by omega) (by omega) d0 out,e1,e2]
   ·exact ee
 ·have g5:unqI l=(out,i+1):=by
   rw [← g4,unqG_q (by omega) (by omega)]
   show (out++[],i+1)=_
   rw [List.append_nil]
  rw [g5]
  (refine TE.ret' io rfl tysOk (()) ?_ rfl (by rfl) ?_;all_goals (try (first|exact trivial|((with_reducible refine AllP.go ?_);dsimp only [AllP,appP];repeat' (first|refine And.intro ?_ ?_|exact zz)))))
  exact congrArg Value.string (cb_str out)
 ·obtain rfl:i=l.length:=by omega
  have g5:unqI l=([],0):=by
   rw [← g4,List.drop_length,unqG_nil]
   rfl
  rw [g5]
  exact po
end Go.Proofs.YtalmoocpebhoiaaGreatDoor.Am
namespace Go.Proofs.YtalmoocpebhoiaaGreatDoor.Wo
theorem unqG_le:∀ (n:Nat) (s:Bs),s.length≤n→∀ x,unqG s=some x→x.2≤s.length
 | _,[],_,x,h=>by rw [unqG_nil] at h;cases h
 | 0,_ :: _,hn,_,_=>absurd hn (Nat.not_succ_le_zero _)
 | n+1,a :: r,hn,x,h=>by
  rw [unqG] at h
  split at h
  ·cases h;simp
  ·split at h
   ·cases h
   ·rename_i hd
    cases hg:unqG ((a :: r).drop (decI1 (a :: r)).2) with
    | none=>rw [hg] at h;cases h
    | some y=>
     rw [hg] at h
     cases h
     have hl:=dec_le (a :: r)
     have:=unqG_le n _ (by rw [List.length_drop];omega) y hg
     rw [List.length_drop] at this
     dsimp only
     omega
theorem unqI_le (l:Bs):(unqI l).2≤l.length:=by
 match l with
 | []=>exact Nat.zero_le _
 | a :: r=>
  unfold unqI
  dsimp only
  split
  ·cases h:unqG r with
   | none=>exact Nat.zero_le _
   | some x=>
    have:=unqG_le _ r (Nat.le_refl _) x h
    show 1+x.2≤r.length+1
    omega
  ·exact Nat.zero_le _
end Go.Proofs.YtalmoocpebhoiaaGreatDoor.Wo
namespace Go.Proofs.YtalmoocpebhoiaaGreatDoor.Am
open Go.RowKit Lw Wo
end Go.Proofs.YtalmoocpebhoiaaGreatDoor.Am
namespace Go.Proofs.YtalmoocpebhoiaaGreatDoor.Am
open Go.RowKit Lw Wo
def fdR (x:Fld) (j:Nat):DC:=match j with
 | 0=>.c (.string (sB x.1))
 | _=>.c (.bool x.2)
abbrev fdC (l:List Fld):Ct:=listC fdR ([],false) l
theorem rSplit_c (l:Bs) (hl:l.length≤1000000):Con Tryz.prog 81 [.o (.c (.string (sB l)))] [] 0 0 U (fun _=>.t [.inl (.ro 2 (splitI l).1.length (fdC (splitI l).1).cell),.inl (.c (.int .i64 (splitI l).2))]) G0:=by
 refine con_of Tryz.func81 rfl (by kernel_rfl) Tryz.ntmps81 rfl (by first | exact Nat.zero_le _ | decide) (fun _=>⟨rfl,rfl⟩) fun w S ν=>?_
 have hz:(sB l).size=l.length:=sB_size _
 (repeat' (first|(with_reducible refine AllP.go ?_;first|exact og|((try simp only [OS]);repeat' (first|exact oj|refine And.intro ?_ ?_)))|(refine rg ?_ ?_)|(with_reducible first|refine stp ?_|refine tD rfl ?_)|refine ct ?_|refine cf ?_|((first|refine gs ?_ ?_|refine gl ?_ ?_|refine gc ?_ ?_)<;>intro h<;>(try simp only [NS] at h)<;>(try exact xf)<;>(try refine rn ?_ ?_))))
 ·rw [show splitI l=([],3) from if_pos (by omega)]
  exact po
 ·have hl0:l=[]:=List.length_eq_zero_iff.1 (by omega)
  rw [show splitI l=([],0) by unfold splitI;rw [if_neg (by omega),if_pos hl0]]
  exact po
 have hl0:l≠[]:=fun e=>by subst e;exact h hz
 have hs:splitI l=match fieldsI l with | none=>([],6) | some fs=>if fs.any longF=true∨64<fs.length then ([],3) else (fs,0):=by
  unfold splitI;rw [if_neg (by omega),if_neg hl0];rfl
 refine TE.nilOwn 4 67 2 (by rfl) ?_
 (refine TE.only [6,5,4,3,2,0] (by rfl) ?_)
 refine TE.loopG (fun p:Nat×List Fld=>p.1≤l.length∧p.2.length≤p.1∧(fieldsI (l.drop p.1)).map (p.2 ++ ·)=fieldsI l) (fun p=>[(6,.o (.c (.int .i64 p.1))),(5,.o (.sb (p.2.any longF))),(4,.o (.own 0))]) [0] (fun p=>[.own 0 67 2 (fdC p.2)]) (fun p=>l.length - p.1) (0,[]) (by rfl) ⟨Nat.zero_le _,Nat.le_refl _,by simp⟩ ?_ ?_
 ·(refine Ent.of rfl rfl (by rfl) ?_;(try (first|exact trivial|((with_reducible refine AllP.go ?_);dsimp only [AllP,appP];repeat' (first|refine And.intro ?_ ?_|exact zz)))))
  exact LeDC.nil rfl rfl
 rintro ⟨i,out⟩ ⟨g1,g2,g3⟩
 dsimp only at g1 g2 g3
 have hx:Value.string ((sB l).extract ((i:Int)).toNat ((sB l).size:Int).toNat)=Value.string (sB (l.drop i)):=by
  rw [sB_ext,List.take_of_length_le (by rw [List.length_drop,hz];omega)]
  rfl
 have hle:=unqI_le (l.drop i)
 rw [List.length_drop] at hle
 refine wa ?_
 refine cw (rquo_c (l.drop i) (by rw [List.length_drop];omega)) ?_
 intro _ _
 by_cases hn0:(unqI (l.drop i)).2=0
 ·rw [hn0]
  generalize (unqI (l.drop i)).1=u0
  refine wb ?_
  (refine TE.only [9,8,6,5,4,3,2,0] (by rfl) ?_)
  refine TE.loopG (fun q:Nat=>q≤l.length - i∧∀ k,k<q→((l.drop i).getD k 0).toNat≠32) (fun q=>[(8,.o (.c (.int .i64 q)))]) [] (fun _=>[]) (fun q=>l.length - i - q) 0 (by rfl) ⟨Nat.zero_le _,fun k hk=>absurd hk (Nat.not_lt_zero _)⟩ ?_ ?_
  ·exact ee
  rintro n0 ⟨q1,q2⟩
  have hix:((i:Int)+(n0:Int)).toNat=i+n0:=by omega
  have hgd:=getD_drop l i n0
  (repeat' (first|(with_reducible refine AllP.go ?_;first|exact og|((try simp only [OS]);repeat' (first|exact oj|refine And.intro ?_ ?_)))|(refine rg ?_ ?_)|(with_reducible first|refine stp ?_|refine tD rfl ?_)|refine ct ?_|refine cf ?_|((first|refine gs ?_ ?_|refine gl ?_ ?_|refine gc ?_ ?_)<;>intro h<;>(try simp only [NS] at h)<;>(try exact xf)<;>(try refine rn ?_ ?_))))
  ·refine TE.again' (n0+1) ⟨by omega,fun k hk=>?_⟩ (by omega) ?_
   ·rcases Nat.lt_or_ge k n0 with hk2 | hk2
    ·exact q2 k hk2
    ·obtain rfl:k=n0:=by omega
     rw [hix] at h
     rw [hgd]
     exact fun e=>h (congrArg Nat.cast e)
   ·exact ee
  ·have hw:wordI (l.drop i)=(l.drop i).take n0:=wordI_at (by rw [List.length_drop];omega) q2 (.inr (by rw [hgd];rw [hix] at h;exact Int.ofNat.inj h))
   have hln:(wordI (l.drop i)).length=n0:=by rw [hw,List.length_take,List.length_drop];omega
   have he:(sB l).extract ((((i,out):Nat×List Fld).1:Nat):Int).toNat ((((i,out):Nat×List Fld).1:Int)+(n0:Int)).toNat=sB (wordI (l.drop i)):=by
    rw [hw,sB_ext]
    dsimp only
    rw [show ((i:Int)+(n0:Int)).toNat - ((i:Int)).toNat=n0 by omega]
    rfl
   rw [he]
   clear he
   have hfb:bareI (wordI (l.drop i))=true→fieldI (l.drop i)=some ((wordI (l.drop i),false),n0):=fun e=>by
    unfold fieldI
    rw [if_neg (fun k=>k hn0),if_pos e,hln]
   have hfn:¬ bareI (wordI (l.drop i))=true→fieldI (l.drop i)=none:=fun e=>by
    unfold fieldI
    rw [if_neg (fun k=>k hn0),if_neg e]
   clear hw
   have hsz:=sB_size (wordI (l.drop i))
   generalize wordI (l.drop i)=t0 at *
   refine cw (rbare_c t0 (by omega)) ?_
   intro _ _
   by_cases hb:bareI t0=true
   ·have hf:=hfb hb
    rw [hb]
    have hL1:out.any longF=true→true=(out++[((t0,false):Fld)]).any longF:=fun e=>by
     rw [List.any_append,e];rfl
    have hL2:out.any longF=false→decide (2000<((sB t0).size:Int))=(out++[((t0,false):Fld)]).any longF:=fun e=>by
     rw [List.any_append,e]
     show _=(false || (decide (2000<t0.length) || false))
     rw [Bool.false_or,Bool.or_false]
     exact decide_eq_decide.2 ⟨fun e=>by omega,fun e=>by omega⟩
    have b6:i+n0<l.length→(l.getD (i+n0) 0).toNat≠32→splitI l=([],6):=fun h1 h2=>by rw [hs,fields_bad hf g3 h1 h2]
    have b3:l.length≤i+n0→((out++[((t0,false):Fld)]).any longF=true∨64<(out++[((t0,false):Fld)]).length)→splitI l=([],3):=fun h1 h2=>by rw [hs,fields_end hf g3 h1];exact if_pos h2
    have b0:l.length≤i+n0→¬ ((out++[((t0,false):Fld)]).any longF=true∨64<(out++[((t0,false):Fld)]).length)→splitI l=(out++[(t0,false)],0):=fun h1 h2=>by rw [hs,fields_end hf g3 h1];exact if_neg h2
    have hol:(out++[((t0,false):Fld)]).length=out.length+1:=by simp
    have hap:(appC (fdC out) (litC [[DC.c (Value.string (sB t0)),DC.c (Value.bool false)]])).n=out.length+1:=rfl
    clear hs
    ((refine rn ?_ ?_);(repeat' (first|(with_reducible refine AllP.go ?_;first|exact og|((try simp only [OS]);repeat' (first|exact oj|refine And.intro ?_ ?_)))|(refine rg ?_ ?_)|(with_reducible first|refine stp ?_|refine tD rfl ?_)|refine ct ?_|refine cf ?_|((first|refine gs ?_ ?_|refine gl ?_ ?_|refine gc ?_ ?_)<;>intro h<;>(try simp only [NS] at h)<;>(try exact xf)<;>(try refine rn ?_ ?_)))))
    all_goals try rw [hix] at h
    ·have hL:=hL1 (by assumption)
     refine TE.again' (i+n0+1,out++[(t0,false)]) ⟨by dsimp only;omega,by dsimp only;omega,fields_more hf g3 (by omega) (Int.ofNat.inj h)⟩ (by dsimp only;omega) ?_
     (refine Ent.of rfl rfl (by rfl) ?_;(try (first|exact trivial|((with_reducible refine AllP.go ?_);dsimp only [AllP,appP];repeat' (first|refine And.intro ?_ ?_|exact zz)))))
     exact listC_snocX (f:=fdR) _ rfl (nth2x (LeX.of_eq rfl) (LeX.of_eq rfl))
    ·have hL:=hL2 (by assumption)
     refine TE.again' (i+n0+1,out++[(t0,false)]) ⟨by dsimp only;omega,by dsimp only;omega,fields_more hf g3 (by omega) (Int.ofNat.inj h)⟩ (by dsimp only;omega) ?_
     (refine Ent.of rfl rfl (by rfl) ?_;(try (first|exact trivial|((with_reducible refine AllP.go ?_);dsimp only [AllP,appP];repeat' (first|refine And.intro ?_ ?_|exact zz)))))
     ·exact hL
     ·exact listC_snocX (f:=fdR) _ rfl (nth2x (LeX.of_eq rfl) (LeX.of_eq rfl))
   ·rw [Bool.not_eq_true] at hb
    rw [hb]
    have b6:splitI l=([],6):=by rw [hs,fields_none (hfn (by rw [hb];decide)) g3]
    refine wb ?_
    rw [b6]
    exact po
  ·have hw:wordI (l.drop i)=(l.drop i).take n0:=wordI_at (by rw [List.length_drop];omega) q2 (.inl (by rw [List.length_drop];omega))
   have hln:(wordI (l.drop i)).length=n0:=by rw [hw,List.length_take,List.length_drop];omega
   have he:(sB l).extract ((((i,out):Nat×List Fld).1:Nat):Int).toNat ((((i,out):Nat×List Fld).1:Int)+(n0:Int)).toNat=sB (wordI (l.drop i)):=by
    rw [hw,sB_ext]
    dsimp only
    rw [show ((i:Int)+(n0:Int)).toNat - ((i:Int)).toNat=n0 by omega]
    rfl
   rw [he]
   clear he
   have hfb:bareI (wordI (l.drop i))=true→fieldI (l.drop i)=some ((wordI (l.drop i),false),n0):=fun e=>by
    unfold fieldI
    rw [if_neg (fun k=>k hn0),if_pos e,hln]
   have hfn:¬ bareI (wordI (l.drop i))=true→fieldI (l.drop i)=none:=fun e=>by
    unfold fieldI
    rw [if_neg (fun k=>k hn0),if_neg e]
   clear hw
   have hsz:=sB_size (wordI (l.drop i))
   generalize wordI (l.drop i)=t0 at *
   refine cw (rbare_c t0 (by omega)) ?_
   intro _ _
   by_cases hb:bareI t0=true
   ·have hf:=hfb hb
    rw [hb]
    have hL1:out.any longF=true→true=(out++[((t0,false):Fld)]).any longF:=fun e=>by
     rw [List.any_append,e];rfl
    have hL2:out.any longF=false→decide (2000<((sB t0).size:Int))=(out++[((t0,false):Fld)]).any longF:=fun e=>by
     rw [List.any_append,e]
     show _=(false || (decide (2000<t0.length) || false))
     rw [Bool.false_or,Bool.or_false]
     exact decide_eq_decide.2 ⟨fun e=>by omega,fun e=>by omega⟩
    have b6:i+n0<l.length→(l.getD (i+n0) 0).toNat≠32→splitI l=([],6):=fun h1 h2=>by rw [hs,fields_bad hf g3 h1 h2]
    have b3:l.length≤i+n0→((out++[((t0,false):Fld)]).any longF=true∨64<(out++[((t0,false):Fld)]).length)→splitI l=([],3):=fun h1 h2=>by rw [hs,fields_end hf g3 h1];exact if_pos h2
    have b0:l.length≤i+n0→¬ ((out++[((t0,false):Fld)]).any longF=true∨64<(out++[((t0,false):Fld)]).length)→splitI l=(out++[(t0,false)],0):=fun h1 h2=>by rw [hs,fields_end hf g3 h1];exact if_neg h2
    have hol:(out++[((t0,false):Fld)]).length=out.length+1:=by simp
    have hap:(appC (fdC out) (litC [[DC.c (Value.string (sB t0)),DC.c (Value.bool false)]])).n=out.length+1:=rfl
    clear hs
    ((refine rn ?_ ?_);(repeat' (first|(with_reducible refine AllP.go ?_;first|exact og|((try simp only [OS]);repeat' (first|exact oj|refine And.intro ?_ ?_)))|(refine rg ?_ ?_)|(with_reducible first|refine stp ?_|refine tD rfl ?_)|refine ct ?_|refine cf ?_|((first|refine gs ?_ ?_|refine gl ?_ ?_|refine gc ?_ ?_)<;>intro h<;>(try simp only [NS] at h)<;>(try exact xf)<;>(try refine rn ?_ ?_)))))
    ·rw [b3 (by omega) (.inl (hL1 (by assumption)).symm)]
     exact po
    ·rw [b3 (by omega) (.inl ((hL2 (by assumption)).symm.trans (decide_eq_true h)))]
     exact po
    ·rw [b3 (by omega) (.inr (by omega))]
     exact po
    ·(refine TE.freezeN 3 (by rfl) (by rfl) ?_)
     rw [b0 (by omega) (fun e=>e.elim (fun e=>by rw [← hL2 (by assumption)] at e;have:=of_decide_eq_true e;omega) (fun e=>by omega))]
     (refine TE.ret' io rfl tysOk (()) ?_ rfl (by rfl) ?_;all_goals (try (first|exact trivial|((with_reducible refine AllP.go ?_);dsimp only [AllP,appP];repeat' (first|refine And.intro ?_ ?_|exact zz)))))
     exact listC_snocX (f:=fdR) _ rfl (nth2x (LeX.of_eq rfl) (LeX.of_eq rfl))
   ·rw [Bool.not_eq_true] at hb
    rw [hb]
    have b6:splitI l=([],6):=by rw [hs,fields_none (hfn (by rw [hb];decide)) g3]
    refine wb ?_
    rw [b6]
    exact po
 have hf:fieldI (l.drop i)=some (((unqI (l.drop i)).1,true),(unqI (l.drop i)).2):=if_pos hn0
 have hsz:=sB_size (unqI (l.drop i)).1
 generalize (unqI (l.drop i)).1=t0 at *
 generalize (unqI (l.drop i)).2=n0 at *
 have hix:((i:Int)+(n0:Int)).toNat=i+n0:=by omega
 have hL1:out.any longF=true→true=(out++[((t0,true):Fld)]).any longF:=fun e=>by
  rw [List.any_append,e];rfl
 have hL2:out.any longF=false→decide (2000<((sB t0).size:Int))=(out++[((t0,true):Fld)]).any longF:=fun e=>by
  rw [List.any_append,e]
  show _=(false || (decide (2000<t0.length) || false))
  rw [Bool.false_or,Bool.or_false]
  exact decide_eq_decide.2 ⟨fun e=>by omega,fun e=>by omega⟩
 have b6:i+n0<l.length→(l.getD (i+n0) 0).toNat≠32→splitI l=([],6):=fun h1 h2=>by rw [hs,fields_bad hf g3 h1 h2]
 have b3:l.length≤i+n0→((out++[((t0,true):Fld)]).any longF=true∨64<(out++[((t0,true):Fld)]).length)→splitI l=([],3):=fun h1 h2=>by rw [hs,fields_end hf g3 h1];exact if_pos h2
 have b0:l.length≤i+n0→¬ ((out++[((t0,true):Fld)]).any longF=true∨64<(out++[((t0,true):Fld)]).length)→splitI l=(out++[(t0,true)],0):=fun h1 h2=>by rw [hs,fields_end hf g3 h1];exact if_neg h2
 clear hs
 have hol:(out++[((t0,true):Fld)]).length=out.length+1:=by simp
 have hap:(appC (fdC out) (litC [[DC.c (Value.string (sB t0)),DC.c (Value.bool true)]])).n=out.length+1:=rfl
 ((refine rn ?_ ?_);(repeat' (first|(with_reducible refine AllP.go ?_;first|exact og|((try simp only [OS]);repeat' (first|exact oj|refine And.intro ?_ ?_)))|(refine rg ?_ ?_)|(with_reducible first|refine stp ?_|refine tD rfl ?_)|refine ct ?_|refine cf ?_|((first|refine gs ?_ ?_|refine gl ?_ ?_|refine gc ?_ ?_)<;>intro h<;>(try simp only [NS] at h)<;>(try exact xf)<;>(try refine rn ?_ ?_)))))
 all_goals try rw [hix] at h
 ·rw [b3 (by omega) (.inl (hL1 (by assumption)).symm)]
  exact po
 ·rw [b6 (by omega) (fun e=>h (congrArg Nat.cast e))]
  exact po
 ·have hL:=hL1 (by assumption)
  refine TE.again' (i+n0+1,out++[(t0,true)]) ⟨by dsimp only;omega,by dsimp only;omega,fields_more hf g3 (by omega) (Int.ofNat.inj h)⟩ (by dsimp only;omega) ?_
  (refine Ent.of rfl rfl (by rfl) ?_;(try (first|exact trivial|((with_reducible refine AllP.go ?_);dsimp only [AllP,appP];repeat' (first|refine And.intro ?_ ?_|exact zz)))))
  exact listC_snocX (f:=fdR) _ rfl (nth2x (LeX.of_eq rfl) (LeX.of_eq rfl))
 ·rw [b3 (by omega) (.inl ((hL2 (by assumption)).symm.trans (decide_eq_true h)))]
  exact po
 ·rw [b3 (by omega) (.inr (by omega))]
  exact po
 ·(refine TE.freezeN 3 (by rfl) (by rfl) ?_)
  rw [b0 (by omega) (fun e=>e.elim (fun e=>by rw [← hL2 (by assumption)] at e;have:=of_decide_eq_true e;omega) (fun e=>by omega))]
  (refine TE.ret' io rfl tysOk (()) ?_ rfl (by rfl) ?_;all_goals (try (first|exact trivial|((with_reducible refine AllP.go ?_);dsimp only [AllP,appP];repeat' (first|refine And.intro ?_ ?_|exact zz)))))
  exact listC_snocX (f:=fdR) _ rfl (nth2x (LeX.of_eq rfl) (LeX.of_eq rfl))
 ·rw [b6 (by omega) (fun e=>h (congrArg Nat.cast e))]
  exact po
 ·have hL:=hL2 (by assumption)
  refine TE.again' (i+n0+1,out++[(t0,true)]) ⟨by dsimp only;omega,by dsimp only;omega,fields_more hf g3 (by omega) (Int.ofNat.inj h)⟩ (by dsimp only;omega) ?_
  (refine Ent.of rfl rfl (by rfl) ?_;(try (first|exact trivial|((with_reducible refine AllP.go ?_);dsimp only [AllP,appP];repeat' (first|refine And.intro ?_ ?_|exact zz)))))
  ·exact hL
  ·exact listC_snocX (f:=fdR) _ rfl (nth2x (LeX.of_eq rfl) (LeX.of_eq rfl))
theorem wfields_c (l:Bs):Con Tryz.prog 111 [.o (.c (.string (sB l)))] [] 0 1 U (fun _=>.o (.clo 134 [(0,0)])) (fun _=>[.box 0 9 [.c (.string (sB l))]]):=by
 refine con_of Tryz.func111 rfl (by kernel_rfl) Tryz.ntmps111 rfl (by first | exact Nat.zero_le _ | decide) (fun _=>⟨rfl,rfl⟩) fun w S ν=>?_
 refine wc ?_
 (refine TE.ret' io rfl tysOk (()) ?_ rfl (by rfl) ?_;all_goals (try (first|exact trivial|((with_reducible refine AllP.go ?_);dsimp only [AllP,appP];repeat' (first|refine And.intro ?_ ?_|exact zz)))))
theorem Split_c (m:Int) (te:TypeId) (pe:Value) (l:Bs) (hl:l.length≤1000000):Con Tryz.prog 76 [.o (.c (.string (sB l)))] (glC m te pe) 4 4 U (fun _=>.t [.inl (.ro 2 (splitI l).1.length (fdC (splitI l).1).cell),.inl (.c (.int .i64 (splitI l).2))]) (fun _=>glC m te pe):=by
 refine con_of Tryz.func76 rfl (by kernel_rfl) Tryz.ntmps76 rfl (by first | exact Nat.zero_le _ | decide) (fun _=>⟨rfl,rfl⟩) fun w S ν=>?_
 have hz:(sB l).size=l.length:=sB_size _
 (repeat' (first|(with_reducible refine AllP.go ?_;first|exact og|((try simp only [OS]);repeat' (first|exact oj|refine And.intro ?_ ?_)))|(refine rg ?_ ?_)|(with_reducible first|refine stp ?_|refine tD rfl ?_)|refine ct ?_|refine cf ?_|((first|refine gs ?_ ?_|refine gl ?_ ?_|refine gc ?_ ?_)<;>intro h<;>(try simp only [NS] at h)<;>(try exact xf)<;>(try refine rn ?_ ?_))))
 ·rw [show splitI l=([],3) from if_pos (by omega)]
  exact po
 ·have hl0:l=[]:=List.length_eq_zero_iff.1 (by omega)
  rw [show splitI l=([],0) by unfold splitI;rw [if_neg (by omega),if_pos hl0]]
  exact po
 have hl0:l≠[]:=fun e=>by subst e;exact h hz
 have hs:splitI l=match fieldsI l with | none=>([],6) | some fs=>if fs.any longF=true∨64<fs.length then ([],3) else (fs,0):=by
  unfold splitI;rw [if_neg (by omega),if_neg hl0];rfl
 refine cw (wfields_c l) ?_
 intro _ _
 ((refine TE.run tysOk rfl (by rfl) (by (first|exact trivial|exact fun _ _=>⟨_,rfl⟩|((try simp only [OS]);repeat' (first|omega|exact fun _ _=>⟨_,rfl⟩|refine And.intro ?_ ?_)))) ?_);refine TE.done ?_;refine TE.thenN ?_)
 refine TE.block ?_
 refine TE.nilBox 6 0 67 2 (by rfl) (by rfl) ?_
 (refine TE.range rfl (by rfl) (by rfl) (by kernel_rfl) (by rfl) (by rfl) rfl ?_)
 intro l' a1 w0 B0 S0 ν0 L
 have hle:=unqI_le
 refine TE.scope2' (α:=Nat×List Fld) (β:=(Nat×List Fld)×(Fld×Nat)) 1 0 (fun x=>match x with
  | .inl p=>p.1≤l.length∧p.2.length≤p.1∧(fieldsI (l.drop p.1)).map (p.2 ++ ·)=fieldsI l
  | .inr p=>p.1.1≤l.length∧p.1.2.length≤p.1.1∧(fieldsI (l.drop p.1.1)).map (p.1.2 ++ ·)=fieldsI l∧fieldI (l.drop p.1.1)=some p.2∧p.1.1+p.2.2≤l.length)
  (fun x=>match x with
  | .inl p=>⟨[(0,.o (.c (.func (.yield l') #[] #[]))),(3,.o (.c (.string (sB (l.drop p.1))))),(4,.o (.ptr 10 0))],.own 11 67 2 (fdC p.2) :: .box 10 67 [.any,.any] :: .box 8 9 [.c (.string (sB l))] :: .box 7 4 [.sb (p.2.any longF)] :: .box 6 64 [.own 11] :: .box 5 25 [.c (.int .i64 0)] :: .box 4 64 [.c (.slice none 0 0)] :: glC m te pe,12⟩
  | .inr p=>⟨[(0,.o (.c (.func (.yield l') #[] #[]))),(3,.o (.c (.string (sB (l.drop p.1.1))))),(4,.o (.ptr 10 0)),(5,.o (.c (.int .i64 (p.2.2:Nat))))],.own 11 67 2 (fdC p.1.2) :: .box 10 67 [.c (.string (sB p.2.1.1)),.c (.bool p.2.1.2)] :: .box 8 9 [.c (.string (sB l))] :: .box 7 4 [.sb (p.1.2.any longF)] :: .box 6 64 [.own 11] :: .box 5 25 [.c (.int .i64 0)] :: .box 4 64 [.c (.slice none 0 0)] :: glC m te pe,12⟩)
  (fun x=>match x with
  | .inl p=>2*(l.length - p.1)+1
  | .inr p=>2*(l.length - p.1.1)) (by rfl) (by rfl) ?_ ?_ ?_
 ·intro hf
  (refine TE.seq ?_;(refine TE.rgo tysOk rfl (by rfl) (by (first | exact trivial | exact fun i _=>⟨_,rfl⟩ | ((try simp only [OS]);repeat' (first | omega | exact fun i _=>⟨_,rfl⟩ | refine And.intro ?_ ?_)))) ?_);refine TE.done ?_;refine TE.thenN ?_)
  (refine TE.seq ?_;(refine TE.rgo tysOk rfl (by rfl) (by (first | exact trivial | exact fun i _=>⟨_,rfl⟩ | ((try simp only [OS]);repeat' (first | omega | exact fun i _=>⟨_,rfl⟩ | refine And.intro ?_ ?_)))) ?_);refine TE.done ?_;refine TE.thenN ?_)
  (refine TE.seq ?_;(refine TE.rgo tysOk rfl (by rfl) (by (first | exact trivial | exact fun i _=>⟨_,rfl⟩ | ((try simp only [OS]);repeat' (first | omega | exact fun i _=>⟨_,rfl⟩ | refine And.intro ?_ ?_)))) ?_);refine TE.done ?_;refine TE.thenN ?_)
  refine TE.seq (TE.label (TE.thenN ?_))
  refine TE.ent' ?_ (hf (0,[]) ⟨Nat.zero_le _,Nat.le_refl _,by simp⟩)
  (refine Ent.of rfl rfl (by rfl) ?_;(try (first|exact trivial|((with_reducible refine AllP.go ?_);dsimp only [AllP,appP];repeat' (first|refine And.intro ?_ ?_|exact zz)))))
  exact LeDC.nil rfl rfl
 ·rintro ⟨i,out⟩ ⟨g1,g2,g3⟩ hf
  dsimp only at g1 g2 g3
  have hdl:(l.drop i).length=l.length - i:=List.length_drop ..
  have hul:=hle (l.drop i)
  have hwl:(wordI (l.drop i)).length≤(l.drop i).length:=(List.takeWhile_sublist _).length_le
  have hfq:(unqI (l.drop i)).2≠0→fieldI (l.drop i)=some (((unqI (l.drop i)).1,true),(unqI (l.drop i)).2):=fun e=>if_pos e
  have hfb:(unqI (l.drop i)).2=0→bareI (wordI (l.drop i))=true→fieldI (l.drop i)=some ((wordI (l.drop i),false),(wordI (l.drop i)).length):=fun e k=>by
   unfold fieldI
   rw [if_neg (fun q=>q e),if_pos k]
  have hfn:(unqI (l.drop i)).2=0→¬ bareI (wordI (l.drop i))=true→splitI l=([],6):=fun e k=>by
   rw [hs,fields_none (by unfold fieldI;rw [if_neg (fun q=>q e),if_neg k]) g3]
  have hc1:=cut_c m te pe (l.drop i) [32] (by rw [hdl];omega)
  rw [cut_sp] at hc1
  (repeat (with_reducible first|refine stp ?_|refine tD rfl ?_))
  ((refine rg ?_ ?_);try (with_reducible refine AllP.go ?_;first|exact og|((try simp only [OS]);repeat' (first|exact oj|refine And.intro ?_ ?_))))
  refine cw (unq_c m te pe (l.drop i) (by rw [hdl];omega)) ?_
  intro _ _
  generalize unqI (l.drop i)=u at *
  obtain ⟨ta,n0⟩:=u
  dsimp only at hul hfq hfb hfn
  ((refine rn ?_ ?_);(repeat' (first|(with_reducible refine AllP.go ?_;first|exact og|((try simp only [OS]);repeat' (first|exact oj|refine And.intro ?_ ?_)))|(refine rg ?_ ?_)|(with_reducible first|refine stp ?_|refine tD rfl ?_)|refine ct ?_|refine cf ?_|((first|refine gs ?_ ?_|refine gl ?_ ?_|refine gc ?_ ?_)<;>intro h<;>(try simp only [NS] at h)<;>(try exact xf)<;>(try refine rn ?_ ?_)))))
  ·(with_reducible first | refine TE.jfN ?_ | refine TE.jfR ?_ | refine TE.jfE ?_ | refine TE.jfG ?_)
   refine TE.at (.inr ((i,out),((ta,true),n0))) ⟨rfl,⟨g1,g2,g3,hfq (by omega),by dsimp only;omega⟩,by dsimp only;omega⟩ ?_
   exact ee
  ·generalize wordI (l.drop i)=tb at *
   refine cw (hc1) ?_
   intro _ _
   refine wb ?_
   refine cw (isBare_c tb (by omega)) ?_
   intro _ _
   by_cases hb:bareI tb=true
   ·rw [hb]
    ((refine TE.run tysOk rfl (by rfl) (by (first|exact trivial|exact fun _ _=>⟨_,rfl⟩|((try simp only [OS]);repeat' (first|omega|exact fun _ _=>⟨_,rfl⟩|refine And.intro ?_ ?_)))) ?_);refine TE.done ?_;refine TE.thenN ?_)
    (refine TE.cond_split (by rfl) ?_ ?_<;>intro h<;>(try simp only [NS] at h)<;>(try (exfalso;first | omega | exact h trivial | exact h | exact h rfl | contradiction)))
    refine TE.skip (TE.thenN (TE.seq (TE.label (TE.thenN ?_))))
    refine TE.ent' ?_ (hf ((i,out),((tb,false),tb.length)) ⟨g1,g2,g3,hfb (by omega) hb,by dsimp only;omega⟩ (by dsimp only;omega))
    have hz1:=sB_size tb
    exact ee
   ·have h6:=hfn (by omega) hb
    rw [Bool.not_eq_true] at hb
    rw [hb]
    refine wb ?_
    (refine TE.yield L rfl (by rfl) (by rfl) rfl rfl (by rfl) (by rfl) (by rfl) rfl (by rfl) ?_)
    intro Qr w1 B1 S1 ν1 rd
    (repeat (first|(with_reducible refine AllP.go ?_;first|exact og|((try simp only [OS]);repeat' (first|exact oj|refine And.intro ?_ ?_)))|(refine rg ?_ ?_)|(with_reducible first|refine stp ?_|refine tD rfl ?_)|(with_reducible first|exact PanicOk.body|exact rd.panic|refine PanicOk.then' ?_|refine PanicOk.block ?_|refine PanicOk.jump ?_)|(refine dc ?_)|(refine dn ?_)|(refine TL.done (by rfl) ?_)|(refine TL.auto tysOk rfl ?_ (by rfl) ?_ ?_)|((refine TL.one (by rfl) ?_);first|(refine sm ?_ ?_)|(refine sp ?_ ?_))|(refine sm ?_ ?_)|refine ct ?_|refine cf ?_))
    refine rd.begin ?_
    clear rd
    intro w1 B1 S1 ν1 rd
    refine wa ?_
    refine rd.ret ?_
    intro w2 B2 S2 ν2 L2
    refine wa ?_
    (with_reducible first | refine TE.jfN ?_ | refine TE.jfR ?_ | refine TE.jfE ?_ | refine TE.jfG ?_)
    refine TE.iterStop L2 (by first | exact .inl rfl | exact .inr rfl) (by rfl) ?_
    refine wa ?_
    rw [h6]
    exact po
 ·rintro ⟨⟨i,out⟩,⟨f,n⟩⟩ ⟨g1,g2,g3,g4,g5⟩
  dsimp only at g1 g2 g3 g4 g5⊢
  have hdl:(sB (l.drop i)).size=l.length - i:=by rw [sB_size,List.length_drop]
  have he:(sB (l.drop i)).extract ((n:Nat):Int).toNat ((sB (l.drop i)).size:Int).toNat=sB (l.drop (i+n)):=by
   rw [sB_ext,hdl,List.drop_drop,List.take_of_length_le (by rw [List.length_drop];omega)]
   rfl
  have hz2:(sB (l.drop (i+n))).size=l.length - (i+n):=by rw [sB_size,List.length_drop]
  have he2:(sB (l.drop (i+n))).extract ((1:Int)).toNat ((sB (l.drop (i+n))).size:Int).toNat=sB (l.drop (i+n+1)):=by
   rw [sB_ext,hz2,List.drop_drop,List.take_of_length_le (by rw [List.length_drop];omega)]
   rfl
  have hgd:(l.drop (i+n)).getD (Int.toNat 0) 0=l.getD (i+n) 0:=getD_drop l (i+n) 0
  have hsz:=sB_size f.1
  have b6:i+n<l.length→(l.getD (i+n) 0).toNat≠32→splitI l=([],6):=fun h1 h2=>by rw [hs,fields_bad g4 g3 h1 h2]
  have b3:l.length≤i+n→((out++[f]).any longF=true∨64<(out++[f]).length)→splitI l=([],3):=fun h1 h2=>by rw [hs,fields_end g4 g3 h1];exact if_pos h2
  have b0:l.length≤i+n→¬ ((out++[f]).any longF=true∨64<(out++[f]).length)→splitI l=(out++[f],0):=fun h1 h2=>by rw [hs,fields_end g4 g3 h1];exact if_neg h2
  have hL1:out.any longF=true→true=(out++[f]).any longF:=fun e=>by
   rw [List.any_append,e];rfl
  have hL2:out.any longF=false→decide (2000<((sB f.1).size:Int))=(out++[f]).any longF:=fun e=>by
   rw [List.any_append,e]
   show _=(false || (decide (2000<f.1.length) || false))
   rw [Bool.false_or,Bool.or_false]
   exact decide_eq_decide.2 ⟨fun e=>by omega,fun e=>by omega⟩
  have hol:(out++[f]).length=out.length+1:=by simp
  (repeat (with_reducible first|refine stp ?_|refine tD rfl ?_))
  ((refine rg ?_ ?_);try (with_reducible refine AllP.go ?_;first|exact og|((try simp only [OS]);repeat' (first|exact oj|refine And.intro ?_ ?_))))
  refine TE.done (TE.thenN ?_)
  rw [he]
  (repeat' (first|(with_reducible refine AllP.go ?_;first|exact og|((try simp only [OS]);repeat' (first|exact oj|refine And.intro ?_ ?_)))|(refine rg ?_ ?_)|(with_reducible first|refine stp ?_|refine tD rfl ?_)|refine ct ?_|refine cf ?_|((first|refine gs ?_ ?_|refine gl ?_ ?_|refine gc ?_ ?_)<;>intro h<;>(try simp only [NS] at h)<;>(try exact xf)<;>(try refine rn ?_ ?_))))
  ·(refine TE.yield L rfl (by rfl) (by rfl) rfl rfl (by rfl) (by rfl) (by rfl) rfl (by rfl) ?_)
   intro Qr w1 B1 S1 ν1 rd
   (repeat (first|(with_reducible refine AllP.go ?_;first|exact og|((try simp only [OS]);repeat' (first|exact oj|refine And.intro ?_ ?_)))|(refine rg ?_ ?_)|(with_reducible first|refine stp ?_|refine tD rfl ?_)|(with_reducible first|exact PanicOk.body|exact rd.panic|refine PanicOk.then' ?_|refine PanicOk.block ?_|refine PanicOk.jump ?_)|(refine dc ?_)|(refine dn ?_)|(refine TL.done (by rfl) ?_)|(refine TL.auto tysOk rfl ?_ (by rfl) ?_ ?_)|((refine TL.one (by rfl) ?_);first|(refine sm ?_ ?_)|(refine sp ?_ ?_))|(refine sm ?_ ?_)|refine ct ?_|refine cf ?_))
   refine rd.begin ?_
   clear rd
   intro w1 B1 S1 ν1 rd
   refine wa ?_
   refine rd.ret ?_
   intro w2 B2 S2 ν2 L2
   refine wa ?_
   (with_reducible first | refine TE.jfN ?_ | refine TE.jfR ?_ | refine TE.jfE ?_ | refine TE.jfG ?_)
   refine TE.iterStop L2 (by first | exact .inl rfl | exact .inr rfl) (by rfl) ?_
   refine wa ?_
   rw [b6 (by omega) (fun e=>h (by show (((l.drop (i+n)).getD (Int.toNat 0) 0).toNat:Int)=32;rw [hgd];exact congrArg Nat.cast e))]
   exact po
  all_goals (refine TE.only [48,47,5,4,3,0] (by rfl) ?_)
  all_goals (refine TE.yield L rfl (by rfl) (by rfl) rfl rfl (by rfl) (by rfl) (by rfl) rfl (by rfl) ?_)
  all_goals intro Qr w1 B1 S1 ν1 rd
  all_goals (repeat (first|(with_reducible refine AllP.go ?_;first|exact og|((try simp only [OS]);repeat' (first|exact oj|refine And.intro ?_ ?_)))|(refine rg ?_ ?_)|(with_reducible first|refine stp ?_|refine tD rfl ?_)|(with_reducible first|exact PanicOk.body|exact rd.panic|refine PanicOk.then' ?_|refine PanicOk.block ?_|refine PanicOk.jump ?_)|(refine dc ?_)|(refine dn ?_)|(refine TL.done (by rfl) ?_)|(refine TL.auto tysOk rfl ?_ (by rfl) ?_ ?_)|((refine TL.one (by rfl) ?_);first|(refine sm ?_ ?_)|(refine sp ?_ ?_))|(refine sm ?_ ?_)|refine ct ?_|refine cf ?_))
  all_goals refine rd.begin ?_
  all_goals clear rd
  all_goals intro w1 B1 S1 ν1 rd
  all_goals (repeat' (first|(with_reducible refine AllP.go ?_;first|exact og|((try simp only [OS]);repeat' (first|exact oj|refine And.intro ?_ ?_)))|(refine rg ?_ ?_)|(with_reducible first|refine stp ?_|refine tD rfl ?_)|refine ct ?_|refine cf ?_|((first|refine gs ?_ ?_|refine gl ?_ ?_|refine gc ?_ ?_)<;>intro h<;>(try simp only [NS] at h)<;>(try exact xf)<;>(try refine rn ?_ ?_))))
  all_goals refine rd.normal ?_
  all_goals refine wb ?_
  all_goals (with_reducible first | refine TE.jfN ?_ | refine TE.jfR ?_ | refine TE.jfE ?_ | refine TE.jfG ?_)
  ·have hL:=hL1 (by assumption)
   have h:(((l.drop (i+n)).getD (Int.toNat 0) 0).toNat:Int)=32:=by assumption
   rw [hgd] at h
   refine TE.at (.inl (i+n+1,out++[f])) ⟨rfl,⟨by dsimp only;omega,by dsimp only;omega,fields_more g4 g3 (by omega) (Int.ofNat.inj h)⟩,by dsimp only;omega⟩ ?_
   (refine Ent.of rfl rfl (by rfl) ?_;(try (first|exact trivial|((with_reducible refine AllP.go ?_);dsimp only [AllP,appP];repeat' (first|refine And.intro ?_ ?_|exact zz)))))
   ·exact congrArg Value.string he2
   ·exact listC_snocX (f:=fdR) _ rfl (nth2x (LeX.of_eq rfl) (LeX.of_eq rfl))
  ·have hL:=hL2 (by assumption)
   have h:(((l.drop (i+n)).getD (Int.toNat 0) 0).toNat:Int)=32:=by assumption
   rw [hgd] at h
   refine TE.at (.inl (i+n+1,out++[f])) ⟨rfl,⟨by dsimp only;omega,by dsimp only;omega,fields_more g4 g3 (by omega) (Int.ofNat.inj h)⟩,by dsimp only;omega⟩ ?_
   (refine Ent.of rfl rfl (by rfl) ?_;(try (first|exact trivial|((with_reducible refine AllP.go ?_);dsimp only [AllP,appP];repeat' (first|refine And.intro ?_ ?_|exact zz)))))
   ·exact congrArg Value.string he2
   ·exact listC_snocX (f:=fdR) _ rfl (nth2x (LeX.of_eq rfl) (LeX.of_eq rfl))
   ·exact hL
  ·refine TE.iterEnd L (by first | exact .inl rfl | exact .inr rfl) (by rfl) ?_
   refine wa ?_
   rw [b3 (by omega) (.inl (hL1 (by assumption)).symm)]
   exact po
  ·have hap:(appC (fdC out) (litC [[DC.c (Value.string (sB f.1)),DC.c (Value.bool f.2)]])).n=out.length+1:=rfl
   refine TE.iterEnd L (by first | exact .inl rfl | exact .inr rfl) (by rfl) ?_
   (repeat' (first|(with_reducible refine AllP.go ?_;first|exact og|((try simp only [OS]);repeat' (first|exact oj|refine And.intro ?_ ?_)))|(refine rg ?_ ?_)|(with_reducible first|refine stp ?_|refine tD rfl ?_)|refine ct ?_|refine cf ?_|((first|refine gs ?_ ?_|refine gl ?_ ?_|refine gc ?_ ?_)<;>intro h<;>(try simp only [NS] at h)<;>(try exact xf)<;>(try refine rn ?_ ?_))))
   ·rw [b3 (by omega) (.inl ((hL2 (by assumption)).symm.trans (decide_eq_true h)))]
    exact po
   ·rw [b3 (by omega) (.inr (by omega))]
    exact po
   ·(refine TE.freezeN 14 (by rfl) (by rfl) ?_)
    rw [b0 (by omega) (fun e=>e.elim (fun e=>by rw [← hL2 (by assumption)] at e;have:=of_decide_eq_true e;omega) (fun e=>by omega))]
    (refine TE.ret' io rfl tysOk (()) ?_ rfl (by rfl) ?_;all_goals (try (first|exact trivial|((with_reducible refine AllP.go ?_);dsimp only [AllP,appP];repeat' (first|refine And.intro ?_ ?_|exact zz)))))
    exact listC_snocX (f:=fdR) _ rfl (nth2x (LeX.of_eq rfl) (LeX.of_eq rfl))
end Go.Proofs.YtalmoocpebhoiaaGreatDoor.Am
namespace Go.Proofs.YtalmoocpebhoiaaGreatDoor.Am
open Go.RowKit Lw Go.Shelf
section
variable {P:Program}
theorem con_id {ι : Type} {f : FuncId} {args : List AV} {takes : List Chunk} {m : Nat} {pre : ι → Prop} {res : ι → AV} {fn : Func} (hf : P.funcs[f]? = some fn) (hn : (fn.name == "runtime.NumGoroutine") = false) (hb : fn.body.isNone = false) (wfT : allB (Chunk.ltB m) takes = true) (wf : ∀ x, (res x).ltB m = true)
  (h:∀ w S ν vs,All2 (AV.rel w S ν) args vs→(∀ c∈takes,c.holds w S ν)→Calls P f vs.toArray w fun e w'=>∃ x u,e = .returned u∧pre x∧(res x).rel w S ν u∧w' = w):Con P f args takes m m pre res (fun _=>takes):=by
 refine ⟨⟨fn,hf,hn,hb⟩,wfT,Nat.le_refl _,fun x=>⟨wf x,wfT⟩,fun w S ν vs ha ht hnd hbk hS=>Calls.mono (h w S ν vs ha ht) ?_⟩
 rintro e w' ⟨x,u,he,hp,hr,rfl⟩
 exact ⟨x,S,ν,u,he,hp,hr,Fr.refl _ _,fun _ _=>rfl,fun _ h=>h,fun b hb=>⟨hS b hb,.inl hb⟩,ht,hnd,fun b hb=>⟨(hbk b hb).1,(hbk b hb).2,.inl hb⟩⟩
end
abbrev blN (l:List UInt8):List Chunk:=[.box 0 100 [.c (.pointer none),.own 1],.own 1 5 1 (bytesC l)]
abbrev wblC (l:List UInt8):List Chunk:=[.box 0 100 [.ptr 0 0,.own 1],.own 1 5 1 (bytesC l)]
abbrev blG (l:List UInt8):List Chunk:=[.box 0 100 [.ptr 0 0,.own 2],.own 2 5 1 (bytesC l)]
theorem ccU_c (l:List UInt8):Con Tryz.prog 98 [.o (.ptr 0 0)] (wblC l) 2 2 U (fun _=>.t []) (fun _=>wblC l):=by
 refine con_id (fn:=Tryz.f98) Tryz.func98 (by kernel_rfl) (by kernel_rfl) rfl (fun _=>rfl) fun w S ν vs hv ht=>?_
 obtain ⟨b,us,h1,h2,h3⟩:=ht _ (List.mem_cons_self ..)
 cases vs with
 | nil=>exact hv.elim
 | cons v vs=>
  cases vs with
  | cons _ _=>exact hv.2.elim
  | nil=>
   obtain ⟨⟨b',k1,k2⟩,_⟩:=hv
   rw [h1] at k1
   cases k1
   cases us with
   | nil=>exact h3.elim
   | cons u us=>
    obtain ⟨⟨b2,g1,g2⟩,_⟩:=h3
    rw [h1] at g1
    cases g1
    dsimp only at k2 g2
    subst k2
    have c0:w.cell? ⟨b,0,none⟩=some (.pointer (some ⟨b,0,none⟩)):=by rw [Lib.cell_of_heap h2,g2];rfl
    refine Calls.mono (Any.Builder_copyCheck_used (ρ:=Tryz.lays156_ren) { Tryz.lays156 with } Tryz.Builder_Extra_156.toX72 b w c0) ?_
    rintro e w' ⟨rfl,rfl⟩
    exact ⟨(),_,rfl,trivial,⟨[],rfl,trivial⟩,rfl⟩
theorem ccN_c (l:List UInt8):Con Tryz.prog 98 [.o (.ptr 0 0)] (blN l) 2 2 U (fun _=>.t []) (fun _=>wblC l):=by
 refine ⟨⟨Tryz.f98,Tryz.func98,by kernel_rfl,by kernel_rfl⟩,rfl,Nat.le_refl _,fun x=>⟨rfl,rfl⟩,fun w S ν vs hv ht hnd hbk hS=>?_⟩
 obtain ⟨b,us,h1,h2,h3⟩:=ht _ (List.mem_cons_self ..)
 have ho:=ht _ (List.mem_cons_of_mem _ (List.mem_cons_self ..))
 cases vs with
 | nil=>exact hv.elim
 | cons v vs=>
  cases vs with
  | cons _ _=>exact hv.2.elim
  | nil=>
   obtain ⟨⟨b',k1,k2⟩,_⟩:=hv
   rw [h1] at k1
   cases k1
   match us,h3,h2 with
   | [u0,u1],⟨g0,g1,_⟩,h2=>
    obtain ⟨g0,_⟩:=g0
    subst g0
    dsimp only at k2
    subst k2
    have c0:w.cell? ⟨b,0,none⟩=some (.pointer none):=by rw [Lib.cell_of_heap h2];rfl
    have hsh:w.shape? b=some (100,2):=by simp [World.shape?,h2]
    have hfz:w.frozen? ⟨b,0,none⟩=false:=Lib.frozen_of_heap h2 0
    have hbk0:b∈blks ν (blN l):=mem_blks.2 ⟨_,List.mem_cons_self ..,by simp [Chunk.blk,h1]⟩
    have hne:∀ k,(Chunk.own 1 5 1 (bytesC l)).blk ν=some k→k≠b:=by
     intro k hk e
     subst e
     simp only [blks,blN,List.filterMap_cons,List.filterMap_nil,hk] at hnd
     have e0:(Chunk.box 0 100 [.c (.pointer none),.own 1]).blk ν=some k:=by simp [Chunk.blk,h1]
     rw [e0] at hnd
     simp at hnd
    have gr:Gr w (w.setCell ⟨b,0,none⟩ (.pointer (some ⟨b,0,none⟩))) S S:=⟨by simp [World.setCell],fun k hs _=>Below.heap_setCell w ⟨b,0,none⟩ _ k fun e=>(hbk b hbk0).2 (by have e:k=b:=e;rw [← e];exact hs),fun _ h=>h⟩
    have eb:∀ {A B:List A1},blks ν [.box 0 100 A,.own 1 5 1 (bytesC l)]=blks ν [.box 0 100 B,.own 1 5 1 (bytesC l)]:=rfl
    refine Calls.mono (Any.Builder_copyCheck_fresh (ρ:=Tryz.lays156_ren) { Tryz.lays156 with } Tryz.Builder_Extra_156.toX72 b w c0 hsh hfz) ?_
    rintro e w' ⟨rfl,rfl⟩
    refine ⟨(),S,ν,_,rfl,trivial,⟨[],rfl,trivial⟩,⟨rfl,rfl,rfl,by simp [World.setCell],fun k hk hn=>Below.heap_setCell w ⟨b,0,none⟩ _ k fun e=>hn (by have e:k=b:=e;rw [e];exact hbk0)⟩,fun _ _=>rfl,fun _ h=>h,fun k hk=>⟨by have:=hS k hk;simpa [World.setCell] using this,.inl hk⟩,?_,?_,?_⟩
    ·intro c hc
     rcases List.mem_cons.1 hc with rfl | hc
     ·exact ⟨b,[.pointer (some ⟨b,0,none⟩),u1],h1,heap_setCell_same h2,⟨b,h1,rfl⟩,A1.mono (m:=2) gr (fun _ _=>rfl) (show 1<2 by decide) g1,trivial⟩
     ·rw [List.mem_singleton.1 hc]
      exact Chunk.mono (m:=2) gr (fun _ _=>rfl) (show 1<2 by decide) (fun k hk=>Below.heap_setCell w ⟨b,0,none⟩ _ k (hne k hk)) ho
    ·exact hnd
    ·intro k hk
     have:=hbk k hk
     exact ⟨by simpa [World.setCell] using this.1,this.2,.inl hk⟩
section
variable {P:Program} {st:AS} {o:Oper} {K:Nat→Bool}
theorem m_sliceData {c:Call} {x:Operand} {t id E sz:Nat} {ct:Ct} (ho:o.op = .call c) (hc:c.callee = .builtin .unsafeSliceData) (hx:c.args.toList=[x]) (ht:c.argTypes.toList=[t]) (hv:aop st x=some (.o (.own id))) (hf:findOwn (fun _=>true) st.hp id=some (E,sz,ct)) (hn:0<ct.n):StepTo P K o st (· = st.put o.dst (.o (.optr id sz 0 0))):=by
 intro X S ν a w Q K' hd sat hk
 obtain ⟨xs,h1,_⟩:=sat.hp _ (findOwn_ok hf).1
 obtain ⟨⟨h2,_⟩,h3⟩:=aop_ok sat hv
 obtain ⟨g,cap,e1,e2⟩:∃ g cap,ν id = .slice (some ⟨g,0,none⟩) ct.n cap∧ct.n≤cap:=by
  rcases h1.2 with ⟨_,hz⟩ | ⟨g,cap,cur,e1,_,_,e4,_⟩
  ·omega
  ·exact ⟨g,cap,e1,e4⟩
 obtain ⟨cs,ex⟩:=exec_builtin (a:=a) ho hc hx (show c.argTypes = #[t] by rw [← Array.toList_inj];exact ht)
 refine wp_value (w':=w) (u:=.pointer (some ⟨g,0,none⟩)) ?_ (hk _ S ν _ _ rfl (sat.put hd (v:=.o (.optr id sz 0 0)) ⟨g,ct.n,cap,e1,by simp⟩ h3) ⟨Nat.le_refl _,fun _ h=>h,fun ch hc hk=>⟨by rw [(AS.put_hp _ _ _).1];exact hc,rfl⟩,fun _ _=>rfl⟩)
 rw [ex]
 have hr:=Lib.run_unsafeSliceData_row (P:=P) (w:=w) #[t] o.type ⟨g,0,none⟩ ct.n cap (by omega)
 simp only [builtin,List.map_cons,List.map_nil,Sem.run_bind,h2,e1]
 rw [hr]
 rfl
theorem m_unsafeString {c:Call} {p x:Operand} {pt it id E:Nat} {l:List UInt8} {rest:List Chunk} (ho:o.op = .call c) (hc:c.callee = .builtin .unsafeString) (hx:c.args.toList=[p,x]) (ht:c.argTypes.toList=[pt,it]) (hp:P.underlying pt=some (.pointer E)) (hE:P.cellsOf E=1) (hv:aop st p=some (.o (.optr id 1 0 0))) (hl:aop st x=some (.o (.c (.int .i64 (l.length:Nat))))) (hf:takeOwn (fun i=>!K i) st.hp id=some (E,1,bytesC l,rest)) (hn:l≠[]):StepTo P K o st (· = (AS.mk st.env rest st.nid).put o.dst (.o (.c (.string (sB l))))):=by
 intro X S ν a w Q K' hd sat hk
 obtain ⟨hperm,hK⟩:=takeOwn_perm hf
 have hmem:Chunk.own id E 1 (bytesC l)∈st.hp:=hperm.symm.subset (List.mem_cons_self ..)
 obtain ⟨xs,h1,h1b⟩:=sat.hp _ hmem
 have hn0:0<l.length:=List.length_pos_iff.2 hn
 have hbn:(bytesC l).n=l.length:=rfl
 rw [hbn] at h1 h1b
 obtain ⟨g,cap,cur,e1,e3,e4,e5,e6,e7⟩:∃ g cap cur,ν id = .slice (some ⟨g,0,none⟩) l.length cap∧w.heap[g]? = some (.cells cur E (0,0))∧l.length≤cap∧cap≤maxLen∧cur.size=cap*1∧cur.toList.take (l.length*1)=xs:=by
  rcases h1.2 with ⟨_,hz⟩ | ⟨g,cap,cur,e1,_,e3,e4,e5,e6,e7⟩
  ·omega
  ·exact ⟨g,cap,cur,e1,e3,e4,e5,e6,e7⟩
 have hblk:(Chunk.own id E 1 (bytesC l)).blk ν=some g:=by simp [Chunk.blk,e1,Value.ownBlock]
 obtain ⟨⟨g',n',cp',k1,k2⟩,_⟩:=aop_ok sat hv
 rw [e1] at k1
 cases k1
 have hl2:a.eval x = .int .i64 (l.length:Nat):=(aop_ok sat hl).1.1
 obtain ⟨cs,ex⟩:=exec_builtin (a:=a) ho hc hx (show c.argTypes = #[pt,it] by rw [← Array.toList_inj];exact ht)
 have hcell:∀ j x,l[j]? = some x→w.cell? ((⟨g,0,none⟩:Addr).add j)=some (.int .u8 x.toNat):=fun j x hj=>by
  have hjl:j<l.length:=(List.getElem?_eq_some_iff.1 hj).1
  obtain ⟨u,u1,u2⟩:=h1b j 0 hjl (by decide)
  have hadd:(⟨g,0,none⟩:Addr).add j=⟨g,j,none⟩:=(Lib.add_plain g 0 j).trans (by rw [Nat.zero_add])
  rw [hadd,Lib.cell_of_heap e3]
  have:xs[j]? = cur[j]?:=by
   rw [← e7,List.getElem?_take,if_pos (by omega)]
   simp
  rw [Nat.mul_one,Nat.add_zero,this] at u1
  rw [u1,u2.1]
  show some (Value.int .u8 ((l.getD j 0).toNat:Int))=_
  rw [List.getD_eq_getElem?_getD,hj,Option.getD_some]
 have hrun:=Lib.run_unsafeString_row (P:=P) w pt it o.type E hp hE g cur.size (by simp [World.shape?,e3]) l hn (by omega) (by unfold maxLen at e5;omega) hcell
 have hw' : (w.freeze ⟨g,0,none⟩ l.length).heap.size=w.heap.size∧∀ k,k≠g→(w.freeze ⟨g,0,none⟩ l.length).heap[k]? = w.heap[k]?:=by
  unfold World.freeze
  rw [if_neg (by omega)]
  refine ⟨by simp,fun k hk=>?_⟩
  simp only [Array.getElem?_modify]
  rw [if_neg (fun e=>hk e.symm)]
 have hos:(w.freeze ⟨g,0,none⟩ l.length).os=w.os∧(w.freeze ⟨g,0,none⟩ l.length).tape=w.tape∧(w.freeze ⟨g,0,none⟩ l.length).output=w.output:=by
  unfold World.freeze
  rw [if_neg (by omega)]
  exact ⟨rfl,rfl,rfl⟩
 have hgb:g∈blks ν st.hp:=mem_blks.2 ⟨_,hmem,hblk⟩
 obtain ⟨s1,s2⟩:=swap_kp (takes:=[.own id E 1 (bytesC l)]) (gives:=[]) (rest:=rest) (nid:=st.nid) (ν':=ν) (S':=S) (K:=K) (w':=w.freeze ⟨g,0,none⟩ l.length) (o:=o) (av:=.o (.c (.string (sB l)))) (u:=.string (sB l)) hd sat hperm
  (fun ch hc=>by rw [List.mem_singleton.1 hc];show K id=false;simpa using hK) ⟨hos.1,hos.2.1,hos.2.2,by rw [hw'.1];exact Nat.le_refl _,fun k hk hn=>hw'.2 k fun e=>hn (mem_blks.2 ⟨_,List.mem_singleton.2 rfl,by rw [e];exact hblk⟩)⟩ (fun _ _=>rfl) (fun _ h=>h)
  (fun b hb=>⟨by rw [hw'.1];exact (sat.imm b hb).1,.inl hb⟩) (fun c hc=>nomatch hc) List.nodup_nil (fun b hb=>nomatch hb) (fun c hc=>nomatch hc) (Nat.le_refl _) ⟨rfl,rfl⟩ trivial
 refine wp_value (w':=w.freeze ⟨g,0,none⟩ l.length) (u:=.string (sB l)) ?_ (hk _ S ν _ _ rfl s1 s2)
 rw [ex]
 have k2' : a.eval p = .pointer (some ⟨g,0,none⟩):=by rw [k2]
 simp only [builtin,List.map_cons,List.map_nil,Sem.run_bind,k2',hl2]
 rw [hrun]
 rfl
end
theorem str_ap (l s:List UInt8):LeDC 1 (appC (bytesC l) (strC (sB s))) (bytesC (l++s)):=bytes_app (LeDC.refl _ _) (LeDC.refl _ _) rfl
theorem blWSN_c (l s:List UInt8) (hl:l.length+s.length≤1000000):Con Tryz.prog 61 [.o (.ptr 0 0),.o (.c (.string (sB s)))] (blN l) 2 3 U (fun _=>.t [.inl (.c (.int .i64 (s.length:Nat))),.inl (.c .nilIface)]) (fun _=>blG (l++s)):=by
 refine con_of Tryz.func61 rfl (by kernel_rfl) Tryz.ntmps61 rfl (by first | exact Nat.zero_le _ | decide) (fun _=>⟨rfl,rfl⟩) fun w S ν=>?_
 have hz:=sB_size s
 (repeat (first|(with_reducible refine AllP.go ?_;first|exact og|((try simp only [OS]);repeat' (first|exact oj|refine And.intro ?_ ?_)))|(refine rg ?_ ?_)|(with_reducible first|refine stp ?_|refine tD rfl ?_)|(with_reducible first|exact PanicOk.body|exact rd.panic|refine PanicOk.then' ?_|refine PanicOk.block ?_|refine PanicOk.jump ?_)|(refine dc ?_)|(refine dn ?_)|(refine TL.done (by rfl) ?_)|(refine TL.auto tysOk rfl ?_ (by rfl) ?_ ?_)|((refine TL.one (by rfl) ?_);first|(refine sm ?_ ?_)|(refine sp ?_ ?_))|(refine sm ?_ ?_)|refine ct ?_|refine cf ?_))
 refine cw (ccN_c l) ?_
 intro _ _
 refine wd ?_
 rw [hz]
 (refine TE.ret' io rfl tysOk (()) ?_ rfl (by rfl) ?_;all_goals (try (first|exact trivial|((with_reducible refine AllP.go ?_);dsimp only [AllP,appP];repeat' (first|refine And.intro ?_ ?_|exact zz)))))
 exact str_ap l s
theorem blWS_c (l s:List UInt8) (hl:l.length+s.length≤1000000):Con Tryz.prog 61 [.o (.ptr 0 0),.o (.c (.string (sB s)))] (wblC l) 2 3 U (fun _=>.t [.inl (.c (.int .i64 (s.length:Nat))),.inl (.c .nilIface)]) (fun _=>blG (l++s)):=by
 refine con_of Tryz.func61 rfl (by kernel_rfl) Tryz.ntmps61 rfl (by first | exact Nat.zero_le _ | decide) (fun _=>⟨rfl,rfl⟩) fun w S ν=>?_
 have hz:=sB_size s
 (repeat (first|(with_reducible refine AllP.go ?_;first|exact og|((try simp only [OS]);repeat' (first|exact oj|refine And.intro ?_ ?_)))|(refine rg ?_ ?_)|(with_reducible first|refine stp ?_|refine tD rfl ?_)|(with_reducible first|exact PanicOk.body|exact rd.panic|refine PanicOk.then' ?_|refine PanicOk.block ?_|refine PanicOk.jump ?_)|(refine dc ?_)|(refine dn ?_)|(refine TL.done (by rfl) ?_)|(refine TL.auto tysOk rfl ?_ (by rfl) ?_ ?_)|((refine TL.one (by rfl) ?_);first|(refine sm ?_ ?_)|(refine sp ?_ ?_))|(refine sm ?_ ?_)|refine ct ?_|refine cf ?_))
 refine cw (ccU_c l) ?_
 intro _ _
 refine wd ?_
 rw [hz]
 (refine TE.ret' io rfl tysOk (()) ?_ rfl (by rfl) ?_;all_goals (try (first|exact trivial|((with_reducible refine AllP.go ?_);dsimp only [AllP,appP];repeat' (first|refine And.intro ?_ ?_|exact zz)))))
 exact str_ap l s
theorem blStr_c (l:List UInt8) (hl:l≠[]):Con Tryz.prog 63 [.o (.ptr 0 0)] (wblC l) 2 2 U (fun _=>.o (.c (.string (sB l)))) (fun _=>[]):=by
 refine con_of Tryz.func63 rfl (by kernel_rfl) Tryz.ntmps63 rfl (by first | exact Nat.zero_le _ | decide) (fun _=>⟨rfl,rfl⟩) fun w S ν=>?_
 have h0:0<(bytesC l).n:=List.length_pos_iff.2 hl
 refine wa ?_
 (refine TE.drawK (fun _=>false) (by rfl) (by rfl) (by rfl) ?_)
 repeat' (first|(with_reducible refine AllP.go ?_;first|exact og|((try simp only [OS]);repeat' (first|exact oj|refine And.intro ?_ ?_)))|(with_reducible first|exact PanicOk.body|exact rd.panic|refine PanicOk.then' ?_|refine PanicOk.block ?_|refine PanicOk.jump ?_)|(refine TL.done (by rfl) ?_)|(refine TL.auto tysOk rfl ?_ (by rfl) ?_ ?_)|(refine sm ?_ ?_)|(refine sp ?_ ?_)|(refine TL.one (by rfl) ?_)|(refine TL.two (by rfl) ?_ ?_)|(refine TL.three (by rfl) ?_ ?_ ?_)|(refine TL.four (by rfl) ?_ ?_ ?_ ?_)|(refine StepL.law rfl rfl rfl (fun _ h=>nomatch h) (by rfl) (m_sliceData rfl rfl rfl rfl rfl (by rfl) ?_) (by rfl) ?_;rotate_left;rintro _ rfl;rotate_right)|(refine StepL.law rfl rfl rfl (fun _ h=>nomatch h) (by rfl) (m_unsafeString rfl rfl rfl rfl rfl (by kernel_rfl) rfl rfl (by rfl) hl) (by rfl) ?_;rintro _ rfl))
 all_goals first | exact h0 | skip
 all_goals refine wa ?_
 all_goals (refine TE.ret' io rfl tysOk (()) ?_ rfl (by rfl) ?_;all_goals (try (first|exact trivial|((with_reducible refine AllP.go ?_);dsimp only [AllP,appP];repeat' (first|refine And.intro ?_ ?_|exact zz)))))
end Go.Proofs.YtalmoocpebhoiaaGreatDoor.Am
namespace Go.Proofs.YtalmoocpebhoiaaGreatDoor.Am
open Go.RowKit Lw Wo Go.Shelf
def strR' (x:Bs) (_:Nat):DC:=.c (.string (sB x))
abbrev strsC (l:List Bs):Ct:=listC strR' [] l
theorem map_sB (xs:List Bs):(xs.map sB).map (·.data.toList)=xs:=by
 rw [List.map_map]
 exact List.map_id _
theorem join_c (xs:List Bs) (sep:Bs) (hl:xs.length≤1000000) (hj:(Lib.join xs sep).length≤1000000):Con Tryz.prog 37 [.o (.ro 1 xs.length (strsC xs).cell),.o (.c (.string (sB sep)))] [] 0 0 U (fun _=>.o (.c (.string (sB (Lib.join xs sep))))) G0:=by
 refine con_below (takes:=[]) (fn:=Tryz.f37) Tryz.func37 (by kernel_rfl) (by kernel_rfl) rfl rfl (Nat.le_refl _) (fun _=>rfl) rfl fun w S ν vs hv _=>?_
 match vs,hv with
 | [u,v],⟨⟨A,c,hu,h1,h2,h3,h4⟩,⟨hv,_⟩,_⟩=>
  subst hu hv
  cases xs with
  | nil=>
   refine Calls.mono (Any.strings_Join_none Tryz.lays156 Tryz.Builder_Extra_156 A c (sB sep) w) ?_
   rintro e w' ⟨rfl,rfl⟩
   exact ⟨(),_,rfl,trivial,fun _ _ _=>⟨rfl,rfl⟩,Below.refl _ _⟩
  | cons x r=>
   obtain ⟨b,off,rfl,hs,hb,hc⟩:=h4 (by simp)
   have hm:=map_sB (x :: r)
   have hlen:((x :: r).map sB).length=(x :: r).length:=by simp
   have hj2:(Lib.join (((x :: r).map sB).map (·.data.toList)) (sB sep).data.toList).length≤140737488355328:=by
    rw [hm]
    show (Lib.join (x :: r) sep).length≤_
    omega
   have hcall:=Any.strings_Join Tryz.lays156 Tryz.Builder_Extra_156 b off c ((x :: r).map sB) (sB sep) w (fun j y hy=>?_) hb (by rw [hlen];omega) (by rw [hlen];omega) hj2
   ·rw [hlen] at hcall
    refine Calls.mono hcall ?_
    rintro e w' ⟨rfl,hbl⟩
    refine ⟨(),_,rfl,trivial,fun _ _ _=>⟨?_,rfl⟩,hbl⟩
    rw [hm]
   ·have hjl:j<(x :: r).length:=by
     have:=(List.getElem?_eq_some_iff.1 hy).1
     simpa using this
    obtain ⟨u,u1,u2⟩:=hc j 0 hjl (by decide)
    rw [Nat.mul_one,Nat.add_zero] at u1
    rw [u1,u2.1]
    rw [List.getElem?_map,List.getElem?_eq_getElem hjl] at hy
    cases hy
    show some (Value.string (sB ((x :: r).getD j [])))=_
    rw [List.getD_eq_getElem?_getD,List.getElem?_eq_getElem hjl]
    rfl
theorem wordq {x:Fld} (h:x.2=true):wordOf x=quoteI x.1:=if_pos h
theorem wordb {x:Fld} (h:x.2=false):wordOf x=x.1:=if_neg (by rw [h];decide)
theorem Join_c (m:Int) (te:TypeId) (pe:Value) (l:List Fld) (hl:l.length≤1000000):Con Tryz.prog 25 [.o (.ro 2 l.length (fdC l).cell)] (glC m te pe) 4 4 U (fun _=>.t [.inl (.c (.string (sB (joinI l).1))),.inl (.c (.int .i64 (joinI l).2))]) (fun _=>glC m te pe):=by
 refine con_of Tryz.func25 rfl (by kernel_rfl) Tryz.ntmps25 rfl (by first | exact Nat.zero_le _ | decide) (fun _=>⟨rfl,rfl⟩) fun w S ν=>?_
 (repeat' (first|(with_reducible refine AllP.go ?_;first|exact og|((try simp only [OS]);repeat' (first|exact oj|refine And.intro ?_ ?_)))|(refine rg ?_ ?_)|(with_reducible first|refine stp ?_|refine tD rfl ?_)|refine ct ?_|refine cf ?_|((first|refine gs ?_ ?_|refine gl ?_ ?_|refine gc ?_ ?_)<;>intro h<;>(try simp only [NS] at h)<;>(try exact xf)<;>(try refine rn ?_ ?_))))
 ·rw [show joinI l=([],3) from if_pos (.inl (by omega))]
  exact po
 have h64:l.length≤64:=by omega
 refine TE.nilOwn 5 9 1 (by rfl) ?_
 (refine TE.only [15,14,13,5,4,0] (by rfl) ?_)
 refine TE.loopG (fun q:Nat=>q≤l.length∧∀ k,k<q→(l.getD k ([],false)).1.length≤2000) (fun q=>[(15,.o (.c (.int .i64 q))),(5,.o (.own 4)),(4,.o (.c (.int .i64 (formF (l.take q)))))]) [4] (fun q=>[.own 4 9 1 (strsC ((l.take q).map wordOf))]) (fun q=>l.length - q) 0 (by rfl) ⟨Nat.zero_le _,fun k hk=>absurd hk (Nat.not_lt_zero _)⟩ ?_ ?_
 ·(refine Ent.of rfl rfl (by rfl) ?_;(try (first|exact trivial|((with_reducible refine AllP.go ?_);dsimp only [AllP,appP];repeat' (first|refine And.intro ?_ ?_|exact zz)))))
  exact LeDC.nil rfl rfl
 rintro q ⟨g1,g2⟩
 have hsz:=sB_size (l.getD q ([],false)).1
 have hnext:∀ {f:Int},(l.getD q ([],false)).1.length≤2000→q<l.length→∀ k,k<q+1→(l.getD k ([],false)).1.length≤2000:=fun {_} h1 h2 k hk=>by
  rcases Nat.lt_or_ge k q with h3 | h3
  ·exact g2 k h3
  ·obtain rfl:k=q:=by omega
   exact h1
 (repeat' (first|(with_reducible refine AllP.go ?_;first|exact og|((try simp only [OS]);repeat' (first|exact oj|refine And.intro ?_ ?_)))|(refine rg ?_ ?_)|(with_reducible first|refine stp ?_|refine tD rfl ?_)|refine ct ?_|refine cf ?_|((first|refine gs ?_ ?_|refine gl ?_ ?_|refine gc ?_ ?_)<;>intro h<;>(try simp only [NS] at h)<;>(try exact xf)<;>(try refine rn ?_ ?_))))
 ·rw [show joinI l=([],3) from if_pos (.inr (long_any (q:=q) (by omega) (by omega)))]
  exact po
 ·have hq:q<l.length:=by omega
  have h2000:(l.getD q ([],false)).1.length≤2000:=by omega
  have htk:=takeF hq
  have hmn:((l.take q).map wordOf).length=q:=by rw [List.length_map,List.length_take];omega
  have hcn:(strsC ((l.take q).map wordOf)).n=q:=hmn
  have htn:(l.take q).length=q:=by rw [List.length_take];omega
  have hmap:(l.take (q+1)).map wordOf=(l.take q).map wordOf++[wordOf (l.getD q ([],false))]:=by rw [htk,List.map_append];rfl
  cases hb:(l.getD q ([],false)).2
  ·have hw:=wordb hb
   rw [show (l.getD ((q:Nat):Int).toNat ([],false)).2=false from hb]
   refine wa ?_
   refine cw (isBare_c (l.getD q ([],false)).1 (by omega)) ?_
   intro _ _
   cases hbare:bareI (l.getD q ([],false)).1
   ·have hf:formF (l.take (q+1))=6:=by
     rw [htk]
     exact formF_bad (by unfold goodF;rw [hb,hbare];rfl)
    refine wb ?_
    refine TE.again' (q+1) ⟨by omega,hnext (f:=0) h2000 hq⟩ (by omega) ?_
    rw [hf,hmap,hw]
    (refine Ent.of rfl rfl (by rfl) ?_;(try (first|exact trivial|((with_reducible refine AllP.go ?_);dsimp only [AllP,appP];repeat' (first|refine And.intro ?_ ?_|exact zz)))))
    exact listC_snoc _ rfl (nth1 rfl)
   ·have hf:formF (l.take (q+1))=formF (l.take q):=by
     rw [htk]
     exact formF_good (by unfold goodF;rw [hbare,Bool.or_true])
    refine wb ?_
    refine TE.again' (q+1) ⟨by omega,hnext (f:=0) h2000 hq⟩ (by omega) ?_
    rw [hf,hmap,hw]
    (refine Ent.of rfl rfl (by rfl) ?_;(try (first|exact trivial|((with_reducible refine AllP.go ?_);dsimp only [AllP,appP];repeat' (first|refine And.intro ?_ ?_|exact zz)))))
    exact listC_snoc _ rfl (nth1 rfl)
  ·have hw:=wordq hb
   have hf:formF (l.take (q+1))=formF (l.take q):=by
    rw [htk]
    exact formF_good (by unfold goodF;rw [hb,Bool.true_or])
   rw [show (l.getD ((q:Nat):Int).toNat ([],false)).2=true from hb]
   refine wa ?_
   refine cw (Quote_c m te pe (l.getD q ([],false)).1 (by omega)) ?_
   intro _ _
   refine wb ?_
   refine TE.again' (q+1) ⟨by omega,hnext (f:=0) h2000 hq⟩ (by omega) ?_
   rw [hf,hmap,hw]
   (refine Ent.of rfl rfl (by rfl) ?_;(try (first|exact trivial|((with_reducible refine AllP.go ?_);dsimp only [AllP,appP];repeat' (first|refine And.intro ?_ ?_|exact zz)))))
   exact listC_snoc _ rfl (nth1 rfl)
 ·obtain rfl:q=l.length:=by omega
  have hsh:=short_all g2
  have hjn:=line_join l
  have hlen:=line_len (l:=l) fun f hf=>by rw [List.any_eq_false] at hsh;simpa using hsh f hf
  have hszl:=sB_size (lineI l)
  rw [List.take_length]
  (refine TE.freezeN 4 (by rfl) (by rfl) ?_)
  have hc:=join_c (l.map wordOf) [32] (by rw [List.length_map];omega) (by rw [← hjn];omega)
  rw [← hjn] at hc
  refine cw (hc) ?_
  intro _ _
  cases hg:l.all goodF
  ·rw [show formF l=6 from if_neg (by rw [hg];decide),show joinI l=([],6) from by unfold joinI;rw [if_neg (by rw [hsh];simp;omega),if_pos hg]]
   refine wb ?_
   exact po
  ·rw [show formF l=0 from if_pos hg]
   ((refine rn ?_ ?_);(repeat' (first|(with_reducible refine AllP.go ?_;first|exact og|((try simp only [OS]);repeat' (first|exact oj|refine And.intro ?_ ?_)))|(refine rg ?_ ?_)|(with_reducible first|refine stp ?_|refine tD rfl ?_)|refine ct ?_|refine cf ?_|((first|refine gs ?_ ?_|refine gl ?_ ?_|refine gc ?_ ?_)<;>intro h<;>(try simp only [NS] at h)<;>(try exact xf)<;>(try refine rn ?_ ?_)))))
   ·rw [show joinI l=([],3) from by unfold joinI;rw [if_neg (by rw [hsh];simp;omega),if_neg (by rw [hg];decide),if_pos (by omega)]]
    exact po
   ·rw [show joinI l=(lineI l,0) from by unfold joinI;rw [if_neg (by rw [hsh];simp;omega),if_neg (by rw [hg];decide),if_neg (by omega)]]
    exact po
end Go.Proofs.YtalmoocpebhoiaaGreatDoor.Am
namespace Go.Proofs.YtalmoocpebhoiaaGreatDoor.Am
open Go.RowKit Lw
open Br Wo
abbrev namD (j:Nat):DC:=.c (.string (sB (kindL.getD j [])))
abbrev glT (m:Int) (te:TypeId) (pe:Value):List Chunk:=[.stat 0 1 10 escD,.stat 1 2 1 (fun _=>.c (.int .i64 m)),.stat 2 7 1 (fun _=>.c (.iface te pe)),.stat 3 3 20 powD,.stat 4 0 6 namD]
theorem linked_c (k:Int):Con Tryz.prog 99 [.o (.c (.int .i64 k))] [] 0 0 U (fun _=>.o (.sb (linkK k))) G0:=by
 refine con_of Tryz.func99 rfl (by kernel_rfl) Tryz.ntmps99 rfl (by first | exact Nat.zero_le _ | decide) (fun _=>⟨rfl,rfl⟩) fun w S ν=>?_
 (repeat' (first|(with_reducible refine AllP.go ?_;first|exact og|((try simp only [OS]);repeat' (first|exact oj|refine And.intro ?_ ?_)))|(refine rg ?_ ?_)|(with_reducible first|refine stp ?_|refine tD rfl ?_)|(with_reducible first|exact PanicOk.body|exact rd.panic|refine PanicOk.then' ?_|refine PanicOk.block ?_|refine PanicOk.jump ?_)|(refine dc ?_)|(refine dn ?_)|(refine TL.done (by rfl) ?_)|(refine TL.auto tysOk rfl ?_ (by rfl) ?_ ?_)|((refine TL.one (by rfl) ?_);first|(refine sm ?_ ?_)|(refine sp ?_ ?_))|(refine sm ?_ ?_)|refine ct ?_|refine cf ?_|((first|refine gs ?_ ?_|refine gl ?_ ?_|refine gc ?_ ?_)<;>intro h<;>(try simp only [NS] at h)<;>(try exact xf)<;>(try refine rn ?_ ?_))))
 all_goals first
  | (rw [show linkK k=true from decide_eq_true (by omega)];(refine TE.ret' io rfl tysOk (()) ?_ rfl (by rfl) ?_;all_goals (try (first|exact trivial|((with_reducible refine AllP.go ?_);dsimp only [AllP,appP];repeat' (first|refine And.intro ?_ ?_|exact zz))))))
  | (rw [show linkK k=decide (k=4) from decide_eq_decide.2 (by omega)];(refine TE.ret' io rfl tysOk (()) ?_ rfl (by rfl) ?_;all_goals (try (first|exact trivial|((with_reducible refine AllP.go ?_);dsimp only [AllP,appP];repeat' (first|refine And.intro ?_ ?_|exact zz))))))
theorem write_c (m:Int) (te:TypeId) (pe:Value) (n:Nd) (p:List ByteArray) (hf:fieldsE n=0) (ha:At.checkE n.attrs=0) (hc:0≤n.cls∧n.cls≤120) (hp:pcheckE p=0):Con Tryz.prog 62 [.g (ndA n),.o (.ro 1 p.length (paC p).cell)] (glT m te pe) 5 5 U (fun _=>.o (.c (.string (sB (rowT n p))))) (fun _=>glT m te pe):=by
 refine con_of Tryz.func62 rfl (by kernel_rfl) Tryz.ntmps62 rfl (by first | exact Nat.zero_le _ | decide) (fun _=>⟨rfl,rfl⟩) fun w S ν=>?_
 obtain ⟨h8,hn⟩:=pcheck_iff.1 hp
 have hpr:=print_c p (fun s hs=>by have:=(name_size (hn s hs)).1;omega) (by omega)
 have hP:printE p=(textS p,0):=if_neg (fun k=>k hp)
 rw [hP] at hpr
 obtain ⟨k1,k2,f1,f2,f3,f4,f5,f6⟩:=fields_zero hf
 have htl:=textL_le hp
 refine wa ?_
 refine cw (hpr) ?_
 intro _ _
 refine wb ?_
 have hq:=Quote_c m te pe (textL p) (by omega)
 have hb0:LeDC 1 (litC [[DC.c (.string (sB (kindL.getD n.kind.toNat [])))],[DC.c (.string (sB (quoteI (textL p))))]]) (strsC (([bf (kindW n.kind),qf (textL p)]:List Fld).map wordOf)):=listC_lit (by repeat' (first | exact trivial | exact LeX.of_eq rfl | refine nth1x ?_ | refine And.intro ?_ ?_))
 (refine TE.mid (ι:=Unit) (fun _=>True) (fun _=>⟨[(2,.o (.ptr 5 0)),(7,.o (.own 6))],.own 6 9 1 (strsC (([bf (kindW n.kind),qf (textL p)]:List Fld).map wordOf)) :: .box 5 53 (ndA n) :: glT m te pe,7⟩) ?_ fun _ _=>?_)
 ·refine TE.drawK (fun i=>Nat.beq i 5 || Nat.beq i 4) (by rfl) (by rfl) (by rfl) ?_
  (repeat' (first|(with_reducible refine AllP.go ?_;first|exact og|((try simp only [OS]);repeat' (first|exact oj|refine And.intro ?_ ?_)))|(with_reducible first|exact PanicOk.body|exact rd.panic|refine PanicOk.then' ?_|refine PanicOk.block ?_|refine PanicOk.jump ?_)|(refine TL.done (by rfl) ?_)|(refine TL.auto tysOk rfl ?_ (by rfl) ?_ ?_)|(refine sm ?_ ?_)|(refine sp ?_ ?_)|(refine TL.one (by rfl) ?_)|(refine TL.two (by rfl) ?_ ?_)|(refine TL.three (by rfl) ?_ ?_ ?_)|(refine TL.four (by rfl) ?_ ?_ ?_ ?_)))
  all_goals first
   | (refine StepL.callW (hq) rfl rfl rfl rfl rfl (by rfl) (by (first|exact trivial|((with_reducible refine AllP.go ?_);dsimp only [AllP,appP];repeat' (first|refine And.intro ?_ ?_|exact zz|assumption)))) (by rfl) (by rfl) ?_;intro _ _;(repeat' (first|(with_reducible refine AllP.go ?_;first|exact og|((try simp only [OS]);repeat' (first|exact oj|refine And.intro ?_ ?_)))|(with_reducible first|exact PanicOk.body|exact rd.panic|refine PanicOk.then' ?_|refine PanicOk.block ?_|refine PanicOk.jump ?_)|(refine TL.done (by rfl) ?_)|(refine TL.auto tysOk rfl ?_ (by rfl) ?_ ?_)|(refine sm ?_ ?_)|(refine sp ?_ ?_)|(refine TL.one (by rfl) ?_)|(refine TL.two (by rfl) ?_ ?_)|(refine TL.three (by rfl) ?_ ?_ ?_)|(refine TL.four (by rfl) ?_ ?_ ?_ ?_))))
   | ((refine StepL.law rfl rfl rfl (fun _ h=>nomatch h) rfl (m_statIdx tysOk rfl (Tryz.underlying137) rfl rfl rfl (by rfl) ?_) (by rfl) ?_;rotate_left;rintro _ rfl;rotate_right);· omega
      (repeat' (first|(with_reducible refine AllP.go ?_;first|exact og|((try simp only [OS]);repeat' (first|exact oj|refine And.intro ?_ ?_)))|(with_reducible first|exact PanicOk.body|exact rd.panic|refine PanicOk.then' ?_|refine PanicOk.block ?_|refine PanicOk.jump ?_)|(refine TL.done (by rfl) ?_)|(refine TL.auto tysOk rfl ?_ (by rfl) ?_ ?_)|(refine sm ?_ ?_)|(refine sp ?_ ?_)|(refine TL.one (by rfl) ?_)|(refine TL.two (by rfl) ?_ ?_)|(refine TL.three (by rfl) ?_ ?_ ?_)|(refine TL.four (by rfl) ?_ ?_ ?_ ?_))))
  all_goals first
   | (refine StepL.callW (hq) rfl rfl rfl rfl rfl (by rfl) (by (first|exact trivial|((with_reducible refine AllP.go ?_);dsimp only [AllP,appP];repeat' (first|refine And.intro ?_ ?_|exact zz|assumption)))) (by rfl) (by rfl) ?_;intro _ _;(repeat' (first|(with_reducible refine AllP.go ?_;first|exact og|((try simp only [OS]);repeat' (first|exact oj|refine And.intro ?_ ?_)))|(with_reducible first|exact PanicOk.body|exact rd.panic|refine PanicOk.then' ?_|refine PanicOk.block ?_|refine PanicOk.jump ?_)|(refine TL.done (by rfl) ?_)|(refine TL.auto tysOk rfl ?_ (by rfl) ?_ ?_)|(refine sm ?_ ?_)|(refine sp ?_ ?_)|(refine TL.one (by rfl) ?_)|(refine TL.two (by rfl) ?_ ?_)|(refine TL.three (by rfl) ?_ ?_ ?_)|(refine TL.four (by rfl) ?_ ?_ ?_ ?_))))
   | ((refine StepL.law rfl rfl rfl (fun _ h=>nomatch h) rfl (m_statIdx tysOk rfl (Tryz.underlying137) rfl rfl rfl (by rfl) ?_) (by rfl) ?_;rotate_left;rintro _ rfl;rotate_right);· omega
      (repeat' (first|(with_reducible refine AllP.go ?_;first|exact og|((try simp only [OS]);repeat' (first|exact oj|refine And.intro ?_ ?_)))|(with_reducible first|exact PanicOk.body|exact rd.panic|refine PanicOk.then' ?_|refine PanicOk.block ?_|refine PanicOk.jump ?_)|(refine TL.done (by rfl) ?_)|(refine TL.auto tysOk rfl ?_ (by rfl) ?_ ?_)|(refine sm ?_ ?_)|(refine sp ?_ ?_)|(refine TL.one (by rfl) ?_)|(refine TL.two (by rfl) ?_ ?_)|(refine TL.three (by rfl) ?_ ?_ ?_)|(refine TL.four (by rfl) ?_ ?_ ?_ ?_))))
  all_goals (refine TE.at () trivial ?_;(refine Ent.of rfl rfl (by rfl) ?_;(try (first|exact trivial|((with_reducible refine AllP.go ?_);dsimp only [AllP,appP];repeat' (first|refine And.intro ?_ ?_|exact zz))))))
  all_goals exact hb0
 have hw1:∀ (l:List Fld) (f:Fld),(l++[f]).map wordOf=l.map wordOf++[wordOf f]:=fun l f=>by rw [List.map_append];rfl
 have hlk:=linked_c n.kind
 obtain ⟨L0,hL0⟩:∃ L0,L0=([bf (kindW n.kind),qf (textL p)]:List Fld):=⟨_,rfl⟩
 have hl0:L0.length=2:=by rw [hL0];rfl
 rw [← hL0]
 refine TE.thenN ?_
 (refine TE.seqM (ι:=Unit) (fun _=>True) (fun _=>⟨[(2,.o (.ptr 5 0)),(7,.o (.own 6))],.own 6 9 1 (strsC ((L0++numF n).map wordOf)) :: .box 5 53 (ndA n) :: glT m te pe,7⟩) ?_ fun _ _=>?_)
 ·refine wa ?_
  refine cw (hlk) ?_
  intro _ _
  by_cases hl:linkK n.kind=true
  ·have hnum:numF n=[bf (Lib.itoa n.cls)]:=if_pos hl
   rw [hl,hnum]
   refine wb ?_
   refine cw (Dig_c m te pe n.cls (by omega)) ?_
   intro _ _
   refine wb ?_
   (refine TE.at () trivial ?_;(refine Ent.of rfl rfl (by rfl) ?_;(try (first|exact trivial|((with_reducible refine AllP.go ?_);dsimp only [AllP,appP];repeat' (first|refine And.intro ?_ ?_|exact zz))))))
   exact listC_snoc _ (hw1 _ _) (nth1 rfl)
  ·have hnum:numF n=[]:=if_neg hl
   rw [Bool.not_eq_true] at hl
   rw [hl,hnum,List.append_nil]
   refine wb ?_
   exact aa
 obtain ⟨L1,hL1⟩:∃ L1,L1=L0++numF n:=⟨_,rfl⟩
 rw [← hL1]
 (refine TE.seqM (ι:=Unit) (fun _=>True) (fun _=>⟨[(2,.o (.ptr 5 0)),(7,.o (.own 6))],.own 6 9 1 (strsC ((L1++datF n).map wordOf)) :: .box 5 53 (ndA n) :: glT m te pe,7⟩) ?_ fun _ _=>?_)
 ·have hl1:L1.length≤3:=by
   rw [hL1,List.length_append,hl0]
   unfold numF
   split<;>simp
  have hqd:=Quote_c m te pe (bL n.data) (by have:(bL n.data).length=n.data.size:=rfl;omega)
  rw [sB_bL] at hqd
  have hm:=Dig_c m te pe n.major (by omega)
  have hi:=Dig_c m te pe n.minor (by omega)
  have hw2:∀ (l:List Fld) (f g:Fld),(l++[f,g]).map wordOf=l.map wordOf++[wordOf f,wordOf g]:=fun l f g=>by rw [List.map_append];rfl
  have hap2:LeDC 1 (appC (strsC (L1.map wordOf)) (litC [[DC.c (.string (sB (Lib.itoa n.major)))],[DC.c (.string (sB (Lib.itoa n.minor)))]])) (strsC ((L1++[bf (Lib.itoa n.major),bf (Lib.itoa n.minor)]).map wordOf)):=by
   rw [hw2]
   exact LeDC.trans (LeDC.app (LeDC.refl _ _) (listC_lit (by repeat' (first | exact trivial | exact LeX.of_eq rfl | refine nth1x ?_ | refine And.intro ?_ ?_)))) (listC_app _ _)
  (repeat' (first|(with_reducible refine AllP.go ?_;first|exact og|((try simp only [OS]);repeat' (first|exact oj|refine And.intro ?_ ?_)))|(refine rg ?_ ?_)|(with_reducible first|refine stp ?_|refine tD rfl ?_)|refine ct ?_|refine cf ?_|((first|refine gs ?_ ?_|refine gl ?_ ?_|refine gc ?_ ?_)<;>intro h<;>(try simp only [NS] at h)<;>(try exact xf)<;>(try refine rn ?_ ?_))))
  ·have hdat:datF n=[qf (bL n.data)]:=if_pos (decide_eq_true (by omega))
   rw [hdat]
   refine cw (hqd) ?_
   intro _ _
   refine wb ?_
   (refine TE.at () trivial ?_;(refine Ent.of rfl rfl (by rfl) ?_;(try (first|exact trivial|((with_reducible refine AllP.go ?_);dsimp only [AllP,appP];repeat' (first|refine And.intro ?_ ?_|exact zz))))))
   exact listC_snoc _ (hw1 _ _) (nth1 rfl)
  ·have hdat:datF n=[qf (bL n.data)]:=if_pos (decide_eq_true (by omega))
   rw [hdat]
   refine cw (hqd) ?_
   intro _ _
   refine wb ?_
   (refine TE.at () trivial ?_;(refine Ent.of rfl rfl (by rfl) ?_;(try (first|exact trivial|((with_reducible refine AllP.go ?_);dsimp only [AllP,appP];repeat' (first|refine And.intro ?_ ?_|exact zz))))))
   exact listC_snoc _ (hw1 _ _) (nth1 rfl)
  ·have hdat:datF n=[bf (Lib.itoa n.major),bf (Lib.itoa n.minor)]:=(if_neg (fun k=>by have:n.kind=2∨n.kind=3:=of_decide_eq_true k;omega)).trans (if_pos (by omega))
   rw [hdat]
   (refine TE.drawK (fun i=>Nat.beq i 5) (by rfl) (by rfl) (by rfl) ?_)
   refine wf ?_
   all_goals first|((refine StepL.callW (hm) rfl rfl rfl rfl rfl (by rfl) ?_ (by rfl) (by rfl) ?_;focus ((first|exact trivial|((with_reducible refine AllP.go ?_);dsimp only [AllP,appP];repeat' (first|refine And.intro ?_ ?_|exact zz|assumption)));done));intro _ _;(repeat' (first|(with_reducible refine AllP.go ?_;first|exact og|((try simp only [OS]);repeat' (first|exact oj|refine And.intro ?_ ?_)))|(with_reducible first|exact PanicOk.body|exact rd.panic|refine PanicOk.then' ?_|refine PanicOk.block ?_|refine PanicOk.jump ?_)|(refine TL.done (by rfl) ?_)|(refine TL.auto tysOk rfl ?_ (by rfl) ?_ ?_)|(refine sm ?_ ?_)|(refine sp ?_ ?_)|(refine TL.one (by rfl) ?_)|(refine TL.two (by rfl) ?_ ?_)|(refine TL.three (by rfl) ?_ ?_ ?_)|(refine TL.four (by rfl) ?_ ?_ ?_ ?_))))|((refine StepL.callW (hi) rfl rfl rfl rfl rfl (by rfl) ?_ (by rfl) (by rfl) ?_;focus ((first|exact trivial|((with_reducible refine AllP.go ?_);dsimp only [AllP,appP];repeat' (first|refine And.intro ?_ ?_|exact zz|assumption)));done));intro _ _;(repeat' (first|(with_reducible refine AllP.go ?_;first|exact og|((try simp only [OS]);repeat' (first|exact oj|refine And.intro ?_ ?_)))|(with_reducible first|exact PanicOk.body|exact rd.panic|refine PanicOk.then' ?_|refine PanicOk.block ?_|refine PanicOk.jump ?_)|(refine TL.done (by rfl) ?_)|(refine TL.auto tysOk rfl ?_ (by rfl) ?_ ?_)|(refine sm ?_ ?_)|(refine sp ?_ ?_)|(refine TL.one (by rfl) ?_)|(refine TL.two (by rfl) ?_ ?_)|(refine TL.three (by rfl) ?_ ?_ ?_)|(refine TL.four (by rfl) ?_ ?_ ?_ ?_))))
   all_goals first|((refine StepL.callW (hm) rfl rfl rfl rfl rfl (by rfl) ?_ (by rfl) (by rfl) ?_;focus ((first|exact trivial|((with_reducible refine AllP.go ?_);dsimp only [AllP,appP];repeat' (first|refine And.intro ?_ ?_|exact zz|assumption)));done));intro _ _;(repeat' (first|(with_reducible refine AllP.go ?_;first|exact og|((try simp only [OS]);repeat' (first|exact oj|refine And.intro ?_ ?_)))|(with_reducible first|exact PanicOk.body|exact rd.panic|refine PanicOk.then' ?_|refine PanicOk.block ?_|refine PanicOk.jump ?_)|(refine TL.done (by rfl) ?_)|(refine TL.auto tysOk rfl ?_ (by rfl) ?_ ?_)|(refine sm ?_ ?_)|(refine sp ?_ ?_)|(refine TL.one (by rfl) ?_)|(refine TL.two (by rfl) ?_ ?_)|(refine TL.three (by rfl) ?_ ?_ ?_)|(refine TL.four (by rfl) ?_ ?_ ?_ ?_))))|((refine StepL.callW (hi) rfl rfl rfl rfl rfl (by rfl) ?_ (by rfl) (by rfl) ?_;focus ((first|exact trivial|((with_reducible refine AllP.go ?_);dsimp only [AllP,appP];repeat' (first|refine And.intro ?_ ?_|exact zz|assumption)));done));intro _ _;(repeat' (first|(with_reducible refine AllP.go ?_;first|exact og|((try simp only [OS]);repeat' (first|exact oj|refine And.intro ?_ ?_)))|(with_reducible first|exact PanicOk.body|exact rd.panic|refine PanicOk.then' ?_|refine PanicOk.block ?_|refine PanicOk.jump ?_)|(refine TL.done (by rfl) ?_)|(refine TL.auto tysOk rfl ?_ (by rfl) ?_ ?_)|(refine sm ?_ ?_)|(refine sp ?_ ?_)|(refine TL.one (by rfl) ?_)|(refine TL.two (by rfl) ?_ ?_)|(refine TL.three (by rfl) ?_ ?_ ?_)|(refine TL.four (by rfl) ?_ ?_ ?_ ?_))))
   all_goals (refine TE.at () trivial ?_;(refine Ent.of rfl rfl (by rfl) ?_;(try (first|exact trivial|((with_reducible refine AllP.go ?_);dsimp only [AllP,appP];repeat' (first|refine And.intro ?_ ?_|exact zz))))))
   all_goals exact hap2
  ·have hdat:datF n=[]:=(if_neg (fun k=>by have:n.kind=2∨n.kind=3:=of_decide_eq_true k;omega)).trans (if_neg (by omega))
   rw [hdat,List.append_nil]
   exact aa
 obtain ⟨L2,hL2⟩:∃ L2,L2=L1++datF n:=⟨_,rfl⟩
 have hl2:L2.length≤5:=by
  rw [hL2,hL1,List.length_append,List.length_append,hl0]
  have h1:(numF n).length≤1:=by unfold numF;split<;>simp
  have h2:(datF n).length≤2:=by
   unfold datF
   split
   ·simp
   ·split<;>simp
  omega
 rw [← hL2]
 refine wa ?_
 (refine TE.only [56,55,54,7,2] (by rfl) ?_)
 have hat:∀ q,q<n.attrs.length→(L2++(n.attrs.take (q+1)).flatMap atF).map wordOf=(L2++(n.attrs.take q).flatMap atF).map wordOf++[quoteI (bL (n.attrs.getD q At.d0).1),quoteI (bL (n.attrs.getD q At.d0).2)]:=fun q hq=>by
  rw [List.take_add_one,List.flatMap_append,List.getD_eq_getElem?_getD,List.getElem?_eq_getElem hq,← List.append_assoc,List.map_append]
  rfl
 refine TE.loopG (fun q:Nat=>q≤n.attrs.length) (fun q=>[(56,.o (.c (.int .i64 q))),(7,.o (.own 6))]) [6] (fun q=>[.own 6 9 1 (strsC ((L2++(n.attrs.take q).flatMap atF).map wordOf))]) (fun q=>n.attrs.length - q) 0 (by rfl) (Nat.zero_le _) ?_ ?_
 ·(refine Ent.of rfl rfl (by rfl) ?_;(try (first|exact trivial|((with_reducible refine AllP.go ?_);dsimp only [AllP,appP];repeat' (first|refine And.intro ?_ ?_|exact zz)))))
  rw [show L2++(n.attrs.take 0).flatMap atF=L2 by rw [List.take_zero];exact List.append_nil _]
  exact LeD.refl
 have hsz:=attrs_weight n.attrs
 have h288:At.sizeI n.attrs≤288:=by
  have h7:=(At.checkE_srt ha).2.2.2
  unfold At.fullB at h7
  simp at h7
  omega
 intro q hq
 by_cases hlt:q<n.attrs.length
 ·have hxe:=at_le (getD_mem (l:=n.attrs) (d:=At.d0) hlt)
  have e1:(bL (n.attrs.getD q At.d0).1).length=(n.attrs.getD q At.d0).1.size:=rfl
  have e2:(bL (n.attrs.getD q At.d0).2).length=(n.attrs.getD q At.d0).2.size:=rfl
  have hz1:=Quote_c m te pe (bL (n.attrs.getD q At.d0).1) (by omega)
  have hz2:=Quote_c m te pe (bL (n.attrs.getD q At.d0).2) (by omega)
  have hfl:=atF_len (n.attrs.take q)
  have htq:(n.attrs.take q).length=q:=by rw [List.length_take];omega
  have hcat:LeDC 1 (appC (strsC ((L2++(n.attrs.take q).flatMap atF).map wordOf)) (litC [[DC.c (.string (sB (quoteI (bL (n.attrs.getD q At.d0).1))))],[DC.c (.string (sB (quoteI (bL (n.attrs.getD q At.d0).2))))]])) (strsC ((L2++(n.attrs.take (q+1)).flatMap atF).map wordOf)):=by
   rw [hat q hlt]
   exact LeDC.trans (LeDC.app (LeDC.refl _ _) (listC_lit (by repeat' (first | exact trivial | exact LeX.of_eq rfl | refine nth1x ?_ | refine And.intro ?_ ?_)))) (listC_app _ _)
  rw [sB_bL] at hz1 hz2
  refine wa ?_
  (refine TE.drawK (fun i=>Nat.beq i 7) (by rfl) (by rfl) (by rfl) ?_)
  refine wf ?_
  all_goals first|((refine StepL.callW (hz1) rfl rfl rfl rfl rfl (by rfl) ?_ (by rfl) (by rfl) ?_;focus ((first|exact trivial|((with_reducible refine AllP.go ?_);dsimp only [AllP,appP];repeat' (first|refine And.intro ?_ ?_|exact zz|assumption)));done));intro _ _;(repeat' (first|(with_reducible refine AllP.go ?_;first|exact og|((try simp only [OS]);repeat' (first|exact oj|refine And.intro ?_ ?_)))|(with_reducible first|exact PanicOk.body|exact rd.panic|refine PanicOk.then' ?_|refine PanicOk.block ?_|refine PanicOk.jump ?_)|(refine TL.done (by rfl) ?_)|(refine TL.auto tysOk rfl ?_ (by rfl) ?_ ?_)|(refine sm ?_ ?_)|(refine sp ?_ ?_)|(refine TL.one (by rfl) ?_)|(refine TL.two (by rfl) ?_ ?_)|(refine TL.three (by rfl) ?_ ?_ ?_)|(refine TL.four (by rfl) ?_ ?_ ?_ ?_))))|((refine StepL.callW (hz2) rfl rfl rfl rfl rfl (by rfl) ?_ (by rfl) (by rfl) ?_;focus ((first|exact trivial|((with_reducible refine AllP.go ?_);dsimp only [AllP,appP];repeat' (first|refine And.intro ?_ ?_|exact zz|assumption)));done));intro _ _;(repeat' (first|(with_reducible refine AllP.go ?_;first|exact og|((try simp only [OS]);repeat' (first|exact oj|refine And.intro ?_ ?_)))|(with_reducible first|exact PanicOk.body|exact rd.panic|refine PanicOk.then' ?_|refine PanicOk.block ?_|refine PanicOk.jump ?_)|(refine TL.done (by rfl) ?_)|(refine TL.auto tysOk rfl ?_ (by rfl) ?_ ?_)|(refine sm ?_ ?_)|(refine sp ?_ ?_)|(refine TL.one (by rfl) ?_)|(refine TL.two (by rfl) ?_ ?_)|(refine TL.three (by rfl) ?_ ?_ ?_)|(refine TL.four (by rfl) ?_ ?_ ?_ ?_))))
  all_goals first|((refine StepL.callW (hz1) rfl rfl rfl rfl rfl (by rfl) ?_ (by rfl) (by rfl) ?_;focus ((first|exact trivial|((with_reducible refine AllP.go ?_);dsimp only [AllP,appP];repeat' (first|refine And.intro ?_ ?_|exact zz|assumption)));done));intro _ _;(repeat' (first|(with_reducible refine AllP.go ?_;first|exact og|((try simp only [OS]);repeat' (first|exact oj|refine And.intro ?_ ?_)))|(with_reducible first|exact PanicOk.body|exact rd.panic|refine PanicOk.then' ?_|refine PanicOk.block ?_|refine PanicOk.jump ?_)|(refine TL.done (by rfl) ?_)|(refine TL.auto tysOk rfl ?_ (by rfl) ?_ ?_)|(refine sm ?_ ?_)|(refine sp ?_ ?_)|(refine TL.one (by rfl) ?_)|(refine TL.two (by rfl) ?_ ?_)|(refine TL.three (by rfl) ?_ ?_ ?_)|(refine TL.four (by rfl) ?_ ?_ ?_ ?_))))|((refine StepL.callW (hz2) rfl rfl rfl rfl rfl (by rfl) ?_ (by rfl) (by rfl) ?_;focus ((first|exact trivial|((with_reducible refine AllP.go ?_);dsimp only [AllP,appP];repeat' (first|refine And.intro ?_ ?_|exact zz|assumption)));done));intro _ _;(repeat' (first|(with_reducible refine AllP.go ?_;first|exact og|((try simp only [OS]);repeat' (first|exact oj|refine And.intro ?_ ?_)))|(with_reducible first|exact PanicOk.body|exact rd.panic|refine PanicOk.then' ?_|refine PanicOk.block ?_|refine PanicOk.jump ?_)|(refine TL.done (by rfl) ?_)|(refine TL.auto tysOk rfl ?_ (by rfl) ?_ ?_)|(refine sm ?_ ?_)|(refine sp ?_ ?_)|(refine TL.one (by rfl) ?_)|(refine TL.two (by rfl) ?_ ?_)|(refine TL.three (by rfl) ?_ ?_ ?_)|(refine TL.four (by rfl) ?_ ?_ ?_ ?_))))
  all_goals first | omega | skip
  all_goals refine wa ?_
  all_goals refine TE.again' (q+1) (by omega) (by omega) ?_
  all_goals (refine Ent.of rfl rfl (by rfl) ?_;(try (first|exact trivial|((with_reducible refine AllP.go ?_);dsimp only [AllP,appP];repeat' (first|refine And.intro ?_ ?_|exact zz)))))
  all_goals exact hcat
 ·obtain rfl:q=n.attrs.length:=by omega
  refine wa ?_
  (refine TE.freezeN 6 (by rfl) (by rfl) ?_)
  rw [List.take_length]
  have hLF:L2++n.attrs.flatMap atF=lineF n p:=by rw [hL2,hL1,hL0];simp [lineF]
  have hwt:=lineF_weight hf ha hc hp
  have hle:=line_le (lineF n p)
  have hln:=line_join (lineF n p)
  rw [hLF]
  have hlf:(lineF n p).length≤100:=by
   rw [← hLF,List.length_append,atF_len]
   have:=(At.checkE_srt ha).1
   omega
  have hj:=join_c ((lineF n p).map wordOf) [32] (by rw [List.length_map];omega) (by rw [← hln];omega)
  rw [← hln] at hj
  have hz:=sB_size (lineI (lineF n p))
  have hz1:(⟨#[10]⟩:ByteArray).size=1:=rfl
  refine cw (hj) ?_
  intro _ _
  refine wb ?_
  rw [show sB (rowT n p)=sB (lineI (lineF n p))++sB [10] from (sB_app _ _).symm]
  exact po
end Go.Proofs.YtalmoocpebhoiaaGreatDoor.Am
namespace Go.Proofs.YtalmoocpebhoiaaGreatDoor.Am
open Go.RowKit Lw
open Br
theorem rpath_c (l:List Nd) (hl:l.length≤1000000) (hT:Tok l):∀ i,i<l.length→Con Tryz.prog 29 [.o (.ro 8 l.length (ndC l).cell),.o (.c (.int .i64 i))] [] 0 1 U (fun _=>.o (.own 0)) (fun _=>[.own 0 9 1 (paC (pathI l i))]):=by
 intro i
 induction i using Nat.strongRecOn with
 | ind i ih=>
 intro hi
 refine con_of Tryz.func29 rfl (by kernel_rfl) Tryz.ntmps29 rfl (by first | exact Nat.zero_le _ | decide) (fun _=>⟨rfl,rfl⟩) fun w S ν=>?_
 by_cases h0:i=0
 ·subst h0
  refine wa ?_
  refine TE.nilOwn 4 9 1 (by rfl) ?_
  (refine TE.ret' io rfl tysOk (()) ?_ rfl (by rfl) ?_;all_goals (try (first|exact trivial|((with_reducible refine AllP.go ?_);dsimp only [AllP,appP];repeat' (first|refine And.intro ?_ ?_|exact zz)))))
  exact LeDC.nil rfl rfl
 obtain ⟨k1,k2⟩:=above_pos hT (by omega) hi
 have hpu:=path_up (by omega) hi k1
 obtain ⟨d,hd⟩:∃ d,d=(l.getD i n0).depth:=⟨_,rfl⟩
 have hA:aboveI l i=aboveR d (l.take i).reverse:=by rw [hd];rfl
 obtain ⟨k,hk⟩:∃ k:Nat,aboveI l i=k:=⟨(aboveI l i).toNat,by omega⟩
 rw [hk] at hA hpu k2
 rw [Int.toNat_natCast] at hpu
 refine wa ?_
 refine TE.loopG (fun q:Nat=>q≤i∧0<q∧aboveR d (l.take q).reverse=k) (fun q=>[(5,.o (.c (.int .i64 ((q:Int) - 1))))]) [] (fun _=>[]) (fun q=>q) i (by rfl) ⟨Nat.le_refl _,by omega,hA.symm⟩ ?_ ?_
 ·exact ee
 rintro q ⟨hq,hq0,hg⟩
 obtain ⟨p,rfl⟩:∃ p,q=p+1:=⟨q - 1,by omega⟩
 have hx:l.getD (((p+1:Nat):Int) - 1).toNat n0=l.getD p n0:=by rw [show (((p+1:Nat):Int) - 1).toNat=p by omega]
 have hxd:(l.getD (((p+1:Nat):Int) - 1).toNat n0).depth=(l.getD p n0).depth:=by rw [hx]
 by_cases c1:(l.getD p n0).depth<d
 ·rw [above_lo (by omega) c1] at hg
  obtain rfl:p=k:=by omega
  refine wa ?_
  refine we ?_
  have hpl:=(pcheck_iff.1 (path_ok hT p (by omega))).1
  refine wa ?_
  (refine TE.only [5,1,0] (by rfl) ?_)
  (refine TE.drawK (fun _=>false) (by rfl) (by rfl) (by rfl) ?_)
  (repeat' (first|(with_reducible refine AllP.go ?_;first|exact og|((try simp only [OS]);repeat' (first|exact oj|refine And.intro ?_ ?_)))|(with_reducible first|exact PanicOk.body|exact rd.panic|refine PanicOk.then' ?_|refine PanicOk.block ?_|refine PanicOk.jump ?_)|(refine TL.done (by rfl) ?_)|(refine TL.auto tysOk rfl ?_ (by rfl) ?_ ?_)|(refine sm ?_ ?_)|(refine sp ?_ ?_)|(refine TL.one (by rfl) ?_)|(refine TL.two (by rfl) ?_ ?_)|(refine TL.three (by rfl) ?_ ?_ ?_)|(refine TL.four (by rfl) ?_ ?_ ?_ ?_)))
  all_goals (refine StepL.callW (ih p (by omega) (by omega)) rfl rfl rfl rfl rfl (by rfl) (by (first|exact trivial|((with_reducible refine AllP.go ?_);dsimp only [AllP,appP];repeat' (first|refine And.intro ?_ ?_|exact zz|assumption)))) (by rfl) (by rfl) ?_;intro _ _;(repeat' (first|(with_reducible refine AllP.go ?_;first|exact og|((try simp only [OS]);repeat' (first|exact oj|refine And.intro ?_ ?_)))|(with_reducible first|exact PanicOk.body|exact rd.panic|refine PanicOk.then' ?_|refine PanicOk.block ?_|refine PanicOk.jump ?_)|(refine TL.done (by rfl) ?_)|(refine TL.auto tysOk rfl ?_ (by rfl) ?_ ?_)|(refine sm ?_ ?_)|(refine sp ?_ ?_)|(refine TL.one (by rfl) ?_)|(refine TL.two (by rfl) ?_ ?_)|(refine TL.three (by rfl) ?_ ?_ ?_)|(refine TL.four (by rfl) ?_ ?_ ?_ ?_))))
  all_goals first | omega | skip
  all_goals refine wa ?_
  all_goals (refine TE.ret' io rfl tysOk (()) ?_ rfl (by rfl) ?_;all_goals (try (first|exact trivial|((with_reducible refine AllP.go ?_);dsimp only [AllP,appP];repeat' (first|refine And.intro ?_ ?_|exact zz)))))
  all_goals exact listC_snoc _ hpu (nth1 rfl)
 ·rw [above_hi (by omega) (by omega)] at hg
  have hp0:0<p:=by
   rcases Nat.eq_zero_or_pos p with e | e
   ·subst e;simp [aboveR] at hg
   ·exact e
  refine wa ?_
  refine we ?_
  refine wa ?_
  refine TE.again' p ⟨by omega,hp0,hg⟩ (by omega) ?_
  exact ee
def okB (x:Bn):Prop:=okR x.nd∧x.red.length≤1000000∧∀ s∈x.red,s.size≤1000000000
theorem rmarks_c (l:List Bn) (i:Nat) (hi:i<l.length) (hl:l.length≤1000000) (hx:∀ x∈l,okB x) (hT:Tok (nds l)):Con Tryz.prog 47 [.o (.ro 10 l.length (bnC l).cell),.o (.c (.int .i64 i))] [] 0 0 U (fun _=>.o (.c (.int .i64 (marksE l i)))) G0:=by
 refine con_of Tryz.func47 rfl (by kernel_rfl) Tryz.ntmps47 rfl (by first | exact Nat.zero_le _ | decide) (fun _=>⟨rfl,rfl⟩) fun w S ν=>?_
 obtain ⟨x1,x2,x3⟩:=hx _ (getD_mem (d:=b0) hi)
 have hmE:=marksE_X l i
 have hrl:(l.getD i b0).red=[]↔(l.getD i b0).red.length=0:=List.length_eq_zero_iff.symm
 have hti:(nds l).length=l.length:=List.length_map ..
 have hxn:∀ x∈l,lenN x.nd:=fun x h=>(hx x h).1.1
 (refine TE.seq ?_;(refine TE.rgo tysOk rfl (by rfl) (by (first | exact trivial | exact fun i _=>⟨_,rfl⟩ | ((try simp only [OS]);repeat' (first | omega | exact fun i _=>⟨_,rfl⟩ | refine And.intro ?_ ?_)))) ?_);refine TE.done ?_;refine TE.thenN ?_)
 (refine TE.seq ?_;(refine TE.rgo tysOk rfl (by rfl) (by (first | exact trivial | exact fun i _=>⟨_,rfl⟩ | ((try simp only [OS]);repeat' (first | omega | exact fun i _=>⟨_,rfl⟩ | refine And.intro ?_ ?_)))) ?_);refine TE.done ?_;refine TE.thenN ?_)
 cases ho:(l.getD i b0).opq
 ·rw [show (l.getD ((i:Nat):Int).toNat b0).opq=false from ho]
  by_cases hr:(l.getD i b0).red=[]
  ·have hr0:=hrl.1 hr
   rw [marksX_none hr ho] at hmE
   rw [hmE]
   by_cases h5:(l.getD i b0).nd.kind=5
   ·have hi0:0<i:=by
     rcases Nat.eq_zero_or_pos i with e | e
     ·subst e
      have:=(node_zero ((tok_node hT).2.2 0 (by omega))).1
      rw [nds_getD] at this
      unfold placeE at this
      simp only [List.take_zero,List.reverse_nil] at this
      split at this
      ·exact absurd this (by decide)
      ·omega
     ·exact e
    obtain ⟨a1,a2⟩:=above_pos hT hi0 (by omega)
    have hac:=above_c l i hi hl
    obtain ⟨k,hk⟩:∃ k:Nat,aboveI (nds l) i=k:=⟨(aboveI (nds l) i).toNat,by omega⟩
    have hu:opqAt l (aboveI (nds l) i)=(l.getD k b0).opq:=by rw [hk];unfold opqAt;simp
    rw [hu]
    rw [hk] at a1 a2 hac
    refine wa ?_
    refine cw (hac) ?_
    intro _ _
    refine wb ?_
    rw [show (l.getD ((k:Nat):Int).toNat b0).opq=(l.getD k b0).opq from rfl]
    cases hok:(l.getD k b0).opq
    ·rw [if_neg (by simp)]
     refine wa ?_
     exact po
    ·rw [if_pos ⟨h5,rfl⟩]
     refine wa ?_
     exact po
   ·rw [if_neg (fun k=>h5 k.1)]
    (repeat' (first|(with_reducible refine AllP.go ?_;first|exact og|((try simp only [OS]);repeat' (first|exact oj|refine And.intro ?_ ?_)))|(refine rg ?_ ?_)|(with_reducible first|refine stp ?_|refine tD rfl ?_)|refine ct ?_|refine cf ?_|((first|refine gs ?_ ?_|refine gl ?_ ?_|refine gc ?_ ?_)<;>intro h<;>(try simp only [NS] at h)<;>(try exact xf)<;>(try refine rn ?_ ?_))))
    all_goals (refine TE.callW (above_c l i hi hl) rfl (by rfl) (by rfl) rfl (by rfl) (by (first|exact trivial|((with_reducible refine AllP.go ?_);dsimp only [AllP,appP];repeat' (first|refine And.intro ?_ ?_|exact zz|assumption)))) ?_;intro _ _;((refine rn ?_ ?_);(repeat' (first|(with_reducible refine AllP.go ?_;first|exact og|((try simp only [OS]);repeat' (first|exact oj|refine And.intro ?_ ?_)))|(refine rg ?_ ?_)|(with_reducible first|refine stp ?_|refine tD rfl ?_)|refine ct ?_|refine cf ?_|((first|refine gs ?_ ?_|refine gl ?_ ?_|refine gc ?_ ?_)<;>intro h<;>(try simp only [NS] at h)<;>(try exact xf)<;>(try refine rn ?_ ?_))))))
    all_goals exact po
  ·have hr0:0<(l.getD i b0).red.length:=List.length_pos_iff.2 hr
   rw [marksX_red hr ho] at hmE
   rw [hmE]
   by_cases hk:(l.getD i b0).nd.kind=1∧i≠0
   ·rw [if_pos hk]
    have hc:=prCheck_c (l.getD i b0).red x3 x2
    refine wa ?_
    refine cw (hc) ?_
    intro _ _
    by_cases hp:pcheckE (l.getD i b0).red≠0
    ·rw [if_pos hp]
     refine wb ?_
     exact po
    rw [if_neg hp]
    have hrt:=rtree_c l hl hxn
    have hrp:=rpath_c (nds l) (by omega) hT i (by omega)
    have hpl:=(pcheck_iff.1 (path_ok hT i (by omega))).1
    have hrs:=rsame_c (l.getD i b0).red (pathI (nds l) i) x2 (by omega)
    refine wb ?_
    (refine TE.only [5,1,0] (by rfl) ?_)
    (refine TE.drawK (fun _=>false) (by rfl) (by rfl) (by rfl) ?_)
    (repeat' (first|(with_reducible refine AllP.go ?_;first|exact og|((try simp only [OS]);repeat' (first|exact oj|refine And.intro ?_ ?_)))|(with_reducible first|exact PanicOk.body|exact rd.panic|refine PanicOk.then' ?_|refine PanicOk.block ?_|refine PanicOk.jump ?_)|(refine TL.done (by rfl) ?_)|(refine TL.auto tysOk rfl ?_ (by rfl) ?_ ?_)|(refine sm ?_ ?_)|(refine sp ?_ ?_)|(refine TL.one (by rfl) ?_)|(refine TL.two (by rfl) ?_ ?_)|(refine TL.three (by rfl) ?_ ?_ ?_)|(refine TL.four (by rfl) ?_ ?_ ?_ ?_)))
    all_goals (refine StepL.callW (hrt) rfl rfl rfl rfl rfl (by rfl) (by (first|exact trivial|((with_reducible refine AllP.go ?_);dsimp only [AllP,appP];repeat' (first|refine And.intro ?_ ?_|exact zz|assumption)))) (by rfl) (by rfl) ?_;intro _ _;(repeat' (first|(with_reducible refine AllP.go ?_;first|exact og|((try simp only [OS]);repeat' (first|exact oj|refine And.intro ?_ ?_)))|(with_reducible first|exact PanicOk.body|exact rd.panic|refine PanicOk.then' ?_|refine PanicOk.block ?_|refine PanicOk.jump ?_)|(refine TL.done (by rfl) ?_)|(refine TL.auto tysOk rfl ?_ (by rfl) ?_ ?_)|(refine sm ?_ ?_)|(refine sp ?_ ?_)|(refine TL.one (by rfl) ?_)|(refine TL.two (by rfl) ?_ ?_)|(refine TL.three (by rfl) ?_ ?_ ?_)|(refine TL.four (by rfl) ?_ ?_ ?_ ?_))))
    all_goals (refine StepL.callW (hrp) rfl rfl rfl rfl rfl (by rfl) (by (first|exact trivial|((with_reducible refine AllP.go ?_);dsimp only [AllP,appP];repeat' (first|refine And.intro ?_ ?_|exact zz|assumption)))) (by rfl) (by rfl) ?_;intro _ _;(refine TL.freezeN 1 (by rfl) (by rfl) ?_);(repeat' (first|(with_reducible refine AllP.go ?_;first|exact og|((try simp only [OS]);repeat' (first|exact oj|refine And.intro ?_ ?_)))|(with_reducible first|exact PanicOk.body|exact rd.panic|refine PanicOk.then' ?_|refine PanicOk.block ?_|refine PanicOk.jump ?_)|(refine TL.done (by rfl) ?_)|(refine TL.auto tysOk rfl ?_ (by rfl) ?_ ?_)|(refine sm ?_ ?_)|(refine sp ?_ ?_)|(refine TL.one (by rfl) ?_)|(refine TL.two (by rfl) ?_ ?_)|(refine TL.three (by rfl) ?_ ?_ ?_)|(refine TL.four (by rfl) ?_ ?_ ?_ ?_))))
    all_goals (refine StepL.callW (hrs) rfl rfl rfl rfl rfl (by rfl) (by (first|exact trivial|((with_reducible refine AllP.go ?_);dsimp only [AllP,appP];repeat' (first|refine And.intro ?_ ?_|exact zz|assumption)))) (by rfl) (by rfl) ?_;intro _ _;(repeat' (first|(with_reducible refine AllP.go ?_;first|exact og|((try simp only [OS]);repeat' (first|exact oj|refine And.intro ?_ ?_)))|(with_reducible first|exact PanicOk.body|exact rd.panic|refine PanicOk.then' ?_|refine PanicOk.block ?_|refine PanicOk.jump ?_)|(refine TL.done (by rfl) ?_)|(refine TL.auto tysOk rfl ?_ (by rfl) ?_ ?_)|(refine sm ?_ ?_)|(refine sp ?_ ?_)|(refine TL.one (by rfl) ?_)|(refine TL.two (by rfl) ?_ ?_)|(refine TL.three (by rfl) ?_ ?_ ?_)|(refine TL.four (by rfl) ?_ ?_ ?_ ?_))))
    all_goals
     by_cases hpe:(l.getD i b0).red=pathI (nds l) i
     ·rw [if_pos hpe]
      refine wa ?_
      exact po
     rw [if_neg hpe]
     refine wa ?_
     (refine TE.only [7,5,1,0] (by rfl) ?_)
     refine TE.loopG (fun q:Nat=>q≤i∧∀ j,j<q→(l.getD i b0).red≠(l.getD j b0).red) (fun q=>[(7,.o (.c (.int .i64 q)))]) [] (fun _=>[]) (fun q=>i - q) 0 (by rfl) ⟨Nat.zero_le _,fun j hj=>absurd hj (Nat.not_lt_zero _)⟩ ?_ ?_
     ·exact ee
     rintro q ⟨hq,hg⟩
     by_cases hlt:q<i
     ·have hrq:=rsame_c (l.getD i b0).red (l.getD q b0).red x2 (hx _ (getD_mem (d:=b0) (by omega))).2.1
      by_cases he:(l.getD i b0).red=(l.getD q b0).red
      ·rw [if_pos (dupB_at hlt hi he)]
       refine wa ?_
       (refine TE.drawK (fun _=>false) (by rfl) (by rfl) (by rfl) ?_)
       refine wf ?_
       all_goals (refine StepL.callW (hrq) rfl rfl rfl rfl rfl (by rfl) (by (first|exact trivial|((with_reducible refine AllP.go ?_);dsimp only [AllP,appP];repeat' (first|refine And.intro ?_ ?_|exact zz|assumption)))) (by rfl) (by rfl) ?_;intro _ _;(repeat' (first|(with_reducible refine AllP.go ?_;first|exact og|((try simp only [OS]);repeat' (first|exact oj|refine And.intro ?_ ?_)))|(with_reducible first|exact PanicOk.body|exact rd.panic|refine PanicOk.then' ?_|refine PanicOk.block ?_|refine PanicOk.jump ?_)|(refine TL.done (by rfl) ?_)|(refine TL.auto tysOk rfl ?_ (by rfl) ?_ ?_)|(refine sm ?_ ?_)|(refine sp ?_ ?_)|(refine TL.one (by rfl) ?_)|(refine TL.two (by rfl) ?_ ?_)|(refine TL.three (by rfl) ?_ ?_ ?_)|(refine TL.four (by rfl) ?_ ?_ ?_ ?_))))
       all_goals refine wa ?_
       all_goals exact po
      ·refine wa ?_
       (refine TE.drawK (fun _=>false) (by rfl) (by rfl) (by rfl) ?_)
       refine wf ?_
       all_goals (refine StepL.callW (hrq) rfl rfl rfl rfl rfl (by rfl) (by (first|exact trivial|((with_reducible refine AllP.go ?_);dsimp only [AllP,appP];repeat' (first|refine And.intro ?_ ?_|exact zz|assumption)))) (by rfl) (by rfl) ?_;intro _ _;(repeat' (first|(with_reducible refine AllP.go ?_;first|exact og|((try simp only [OS]);repeat' (first|exact oj|refine And.intro ?_ ?_)))|(with_reducible first|exact PanicOk.body|exact rd.panic|refine PanicOk.then' ?_|refine PanicOk.block ?_|refine PanicOk.jump ?_)|(refine TL.done (by rfl) ?_)|(refine TL.auto tysOk rfl ?_ (by rfl) ?_ ?_)|(refine sm ?_ ?_)|(refine sp ?_ ?_)|(refine TL.one (by rfl) ?_)|(refine TL.two (by rfl) ?_ ?_)|(refine TL.three (by rfl) ?_ ?_ ?_)|(refine TL.four (by rfl) ?_ ?_ ?_ ?_))))
       all_goals refine wa ?_
       all_goals refine TE.again' (q+1) ⟨by omega,fun j hj=>?_⟩ (by omega) ?_
       all_goals first
        | (rcases Nat.lt_or_ge j q with h5 | h5
           ·exact hg j h5
           ·obtain rfl:j=q:=by omega
            exact he)
        | (refine Ent.of rfl rfl (by rfl) ?_;(try (first|exact trivial|((with_reducible refine AllP.go ?_);dsimp only [AllP,appP];repeat' (first|refine And.intro ?_ ?_|exact zz)))))
     ·obtain rfl:q=i:=by omega
      rw [if_neg (by rw [dupB_not (by omega) hg];decide)]
      refine wa ?_
      refine cw (above_c l q hi hl) ?_
      intro _ _
      refine wb ?_
      exact po
   ·rw [if_neg hk]
    (repeat' (first|(with_reducible refine AllP.go ?_;first|exact og|((try simp only [OS]);repeat' (first|exact oj|refine And.intro ?_ ?_)))|(refine rg ?_ ?_)|(with_reducible first|refine stp ?_|refine tD rfl ?_)|refine ct ?_|refine cf ?_|((first|refine gs ?_ ?_|refine gl ?_ ?_|refine gc ?_ ?_)<;>intro h<;>(try simp only [NS] at h)<;>(try exact xf)<;>(try refine rn ?_ ?_))))
    all_goals exact po
 ·rw [show (l.getD ((i:Nat):Int).toNat b0).opq=true from ho]
  by_cases hr:(l.getD i b0).red=[]
  ·have hr0:=hrl.1 hr
   rw [marksX_opq hr ho] at hmE
   by_cases hk:(l.getD i b0).nd.kind=1
   ·rw [if_pos hk] at hmE
    rw [hmE]
    (repeat' (first|(with_reducible refine AllP.go ?_;first|exact og|((try simp only [OS]);repeat' (first|exact oj|refine And.intro ?_ ?_)))|(refine rg ?_ ?_)|(with_reducible first|refine stp ?_|refine tD rfl ?_)|refine ct ?_|refine cf ?_|((first|refine gs ?_ ?_|refine gl ?_ ?_|refine gc ?_ ?_)<;>intro h<;>(try simp only [NS] at h)<;>(try exact xf)<;>(try refine rn ?_ ?_))))
    all_goals (refine TE.callW (above_c l i hi hl) rfl (by rfl) (by rfl) rfl (by rfl) (by (first|exact trivial|((with_reducible refine AllP.go ?_);dsimp only [AllP,appP];repeat' (first|refine And.intro ?_ ?_|exact zz|assumption)))) ?_;intro _ _;((refine rn ?_ ?_);(repeat' (first|(with_reducible refine AllP.go ?_;first|exact og|((try simp only [OS]);repeat' (first|exact oj|refine And.intro ?_ ?_)))|(refine rg ?_ ?_)|(with_reducible first|refine stp ?_|refine tD rfl ?_)|refine ct ?_|refine cf ?_|((first|refine gs ?_ ?_|refine gl ?_ ?_|refine gc ?_ ?_)<;>intro h<;>(try simp only [NS] at h)<;>(try exact xf)<;>(try refine rn ?_ ?_))))))
    all_goals exact po
   ·rw [if_neg hk] at hmE
    rw [hmE]
    refine wa ?_
    exact po
  ·have hr0:0<(l.getD i b0).red.length:=List.length_pos_iff.2 hr
   rw [marksX_both hr ho] at hmE
   by_cases hk:(l.getD i b0).nd.kind=1∧i≠0
   ·rw [if_pos hk] at hmE
    rw [hmE]
    refine wa ?_
    all_goals exact po
   ·rw [if_neg hk] at hmE
    rw [hmE]
    (repeat' (first|(with_reducible refine AllP.go ?_;first|exact og|((try simp only [OS]);repeat' (first|exact oj|refine And.intro ?_ ?_)))|(refine rg ?_ ?_)|(with_reducible first|refine stp ?_|refine tD rfl ?_)|refine ct ?_|refine cf ?_|((first|refine gs ?_ ?_|refine gl ?_ ?_|refine gc ?_ ?_)<;>intro h<;>(try simp only [NS] at h)<;>(try exact xf)<;>(try refine rn ?_ ?_))))
    all_goals exact po
theorem checkB_bad {l:List Bn} {q:Nat} (hT:(checkT (nds l)).2=0) (hq:q<l.length) (h:∀ j,j<q→marksE l j=0) (he:marksE l q≠0):checkB l=((q:Int),marksE l q):=by
 unfold checkB
 rw [if_neg (fun k=>k hT),firstM_at l.length 0 q (Nat.zero_le _) (by omega) (fun j _ hj=>h j hj) he]
theorem checkB_good {l:List Bn} (hT:(checkT (nds l)).2=0) (h:∀ j,j<l.length→marksE l j=0):checkB l=(0,0):=by
 unfold checkB
 rw [if_neg (fun k=>k hT),firstM_none l.length 0 fun j _ hj=>h j (by omega)]
theorem rcheckB_c (l:List Bn) (hl:l.length≤1000000) (hx:∀ x∈l,okB x):Con Tryz.prog 12 [.o (.ro 10 l.length (bnC l).cell)] [] 0 0 U (fun _=>.t [.inl (.c (.int .i64 (checkB l).1)),.inl (.c (.int .i64 (checkB l).2))]) G0:=by
 refine con_of Tryz.func12 rfl (by kernel_rfl) Tryz.ntmps12 rfl (by first | exact Nat.zero_le _ | decide) (fun _=>⟨rfl,rfl⟩) fun w S ν=>?_
 have hti:(nds l).length=l.length:=List.length_map ..
 have hxn:∀ x∈l,lenN x.nd:=fun x h=>(hx x h).1.1
 have hxr:∀ x∈nds l,okR x:=fun x h=>by
  obtain ⟨y,hy,rfl⟩:=List.mem_map.1 h
  exact (hx y hy).1
 have hrt:=rtree_c l hl hxn
 have hrc:=rcheck_c (nds l) (by omega) hxr
 refine wa ?_
 refine cw (hrt) ?_
 intro _ _
 refine wb ?_
 refine cw (hrc) ?_
 intro _ _
 by_cases hT:(checkT (nds l)).2≠0
 ·have hB:checkB l=checkT (nds l):=if_pos hT
  rw [hB]
  refine wb ?_
  exact po
 have hT:=Decidable.not_not.1 hT
 refine wb ?_
 (refine TE.only [6,0] (by rfl) ?_)
 refine TE.loopG (fun q:Nat=>q≤l.length∧∀ j,j<q→marksE l j=0) (fun q=>[(6,.o (.c (.int .i64 q)))]) [] (fun _=>[]) (fun q=>l.length - q) 0 (by rfl) ⟨Nat.zero_le _,fun j hj=>absurd hj (Nat.not_lt_zero _)⟩ ?_ ?_
 ·exact ee
 rintro q ⟨hq,hg⟩
 by_cases hlt:q<l.length
 ·have hrm:=rmarks_c l q hlt hl hx hT
  refine wa ?_
  refine cw (hrm) ?_
  intro _ _
  by_cases he:marksE l q≠0
  ·rw [checkB_bad hT hlt hg he]
   refine wb ?_
   exact po
  have he:=Decidable.not_not.1 he
  refine wb ?_
  refine TE.again' (q+1) ⟨by omega,fun j hj=>?_⟩ (by omega) ?_
  ·rcases Nat.lt_or_ge j q with h5 | h5
   ·exact hg j h5
   ·obtain rfl:j=q:=by omega
    exact he
  ·exact ee
 ·obtain rfl:q=l.length:=by omega
  rw [checkB_good hT hg]
  refine wa ?_
  exact po
end Go.Proofs.YtalmoocpebhoiaaGreatDoor.Am
