/- Texts of this claim, joined. -/
import Derived.Test.YtalmoocpebhoiaaGreatDoorPk3
import Derived.Test.YtalmoocpebhoiaaGreatDoorPk4
import Derived.Test.YtalmoocpebhoiaaGreatDoorPk6
import Derived.Test.YtalmoocpebhoiaaGreatDoorPk7
import Derived.KernelRfl
import Derived.Test.YtalmoocpebhoiaaGreatDoorRows
import Derived.Handed
import Derived.HandedShaped
import Derived.Shelf.Vars
import Derived.Lib.LaidTab
import Derived.Lib.LaidU8
import Derived.Stop.LaidErr
set_option linter.unusedSimpArgs false
set_option linter.unusedVariables false
set_option maxRecDepth 20000
set_option maxHeartbeats 8000000
namespace Go.Proofs.YtalmoocpebhoiaaGreatDoor.Am
open Go.RowKit Lw
open Br Wo
theorem rPrintO_c (p:List ByteArray) (hp:∀ s∈p,s.size≤1000000000) (hl:p.length≤1000000):Con Tryz.prog 28 [.o (.own 0)] [.own 0 9 1 (paC p)] 1 1 U (fun _=>.t [.inl (.c (.string (printE p).1)),.inl (.c (.int .i64 (printE p).2))]) (fun _=>[.own 0 9 1 (paC p)]):=
 (rPrint_c p hp hl).borrow 9 1 (paC p) ⟨.inr ⟨rfl,rfl⟩,trivial⟩ rfl (fun _=>rfl) rfl (fun _=>rfl)
theorem quoted_c (s:ByteArray):Con Tryz.prog 32 [.o (.c (.string s))] [] 0 0 U (fun _=>.g [.c (.string s),.c (.bool true)]) G0:=by
 refine con_of Tryz.func32 rfl (by kernel_rfl) Tryz.ntmps32 rfl (by first | exact Nat.zero_le _ | decide) (fun _=>⟨rfl,rfl⟩) fun w S ν=>?_
 refine wc ?_
 exact po
theorem bare_c (s:ByteArray):Con Tryz.prog 31 [.o (.c (.string s))] [] 0 0 U (fun _=>.g [.c (.string s),.c (.bool false)]) G0:=by
 refine con_of Tryz.func31 rfl (by kernel_rfl) Tryz.ntmps31 rfl (by first | exact Nat.zero_le _ | decide) (fun _=>⟨rfl,rfl⟩) fun w S ν=>?_
 refine wc ?_
 exact po
theorem rbPrint_c (l:List Bn) (hl:l.length≤1000000) (hx:∀ x∈l,okB x):Con Tryz.prog 8 [.o (.ro 10 l.length (bnC l).cell)] [] 0 0 U (fun _=>.t [.inl (.c (.string (sB (printB l).1))),.inl (.c (.int .i64 (printB l).2))]) G0:=by
 refine con_of Tryz.func8 rfl (by kernel_rfl) Tryz.ntmps8 rfl (by first | exact Nat.zero_le _ | decide) (fun _=>⟨rfl,rfl⟩) fun w S ν=>?_
 have hti:(nds l).length=l.length:=List.length_map ..
 have hxr:∀ x∈nds l,okR x:=fun x h=>by
  obtain ⟨y,hy,rfl⟩:=List.mem_map.1 h
  exact (hx y hy).1
 have hrc:=rcheckB_c l hl hx
 have hrt:=rtree_c l hl fun x h=>(hx x h).1.1
 have hpr:=rtPrint_c (nds l) (by omega) hxr
 refine wa ?_
 refine cw (hrc) ?_
 intro _ _
 by_cases h1:(checkB l).2≠0
 ·rw [show printB l=([],(checkB l).2) from if_pos h1]
  refine wb ?_
  exact po
 have hE:printB l=(textT (nds l) l.length++markT l l.length,0):=if_neg h1
 have h1:=Decidable.not_not.1 h1
 have hB:Bok l:=h1
 have hT:Tok (nds l):=bok_tok hB
 have hP:printT (nds l)=(textT (nds l) l.length,0):=(if_neg (fun k=>k hT)).trans (by rw [hti])
 rw [hP] at hpr
 rw [hE]
 refine wb ?_
 refine cw (hrt) ?_
 intro _ _
 refine wb ?_
 refine cw (hpr) ?_
 intro _ _
 refine wb ?_
 (refine TE.only [8,7,6,0] (by rfl) ?_)
 refine TE.loopG (fun q:Nat=>q≤l.length) (fun q=>[(8,.o (.c (.int .i64 q))),(7,.o (.c (.string (sB (textT (nds l) l.length++markT l q)))))]) [] (fun _=>[]) (fun q=>l.length - q) 0 (by rfl) (Nat.zero_le _) ?_ ?_
 ·rw [show markT l 0=[] from rfl,List.append_nil]
  exact ee
 intro q hq
 by_cases hlt:q<l.length
 rotate_left
 ·obtain rfl:q=l.length:=by omega
  refine wa ?_
  exact po
 have hpq:pcheckE (pathI (nds l) q)=0:=path_ok hT q (by omega)
 have hpq2:=pcheck_iff.1 hpq
 have hmk:=(bok_iff.1 hB).2 q hlt
 have hpa:=rpath_c (nds l) (by omega) hT q (by omega)
 have hpr2:=rPrintO_c (pathI (nds l) q) (fun s hs=>by have:=(name_size (hpq2.2 s hs)).1;omega) (by omega)
 rw [show printE (pathI (nds l) q)=(textS (pathI (nds l) q),0) from if_neg (fun k=>k hpq)] at hpr2
 have hml:=mark_le hB q hq
 have hmr:=markR_le hB hlt
 have htl:=text_le hT l.length (by omega)
 have h120:=(tok_node hT).2.1
 have hz1:(sB (textT (nds l) l.length++markT l q)).size≤900000:=by rw [sB_size,List.length_append];omega
 have hs1:(⟨#[10]⟩:ByteArray).size=1:=rfl
 have hjo:=markF_join hT hlt hmk
 have hgo:=markF_good hT hlt hmk
 have hj:=rJoin_c (markF l q)
 rw [hjo] at hj
 have hms:=markT_succ l q
 have hzl:(sB (lineI (markF l q))).size≤2000:=by rw [sB_size];have:=line_le (markF l q);omega
 have hz2:(sB (textT (nds l) l.length++markT l q)++sB (lineI (markF l q))).size≤902000:=by rw [ByteArray.size_append];omega
 have hse0:markF l q≠[]→sB (textT (nds l) l.length++markT l q)++sB (lineI (markF l q))++⟨#[10]⟩=sB (textT (nds l) l.length++markT l (q+1)):=fun hne=>by
  rw [hms,show markR l q=lineI (markF l q)++[10] from if_neg hne,show (⟨#[10]⟩:ByteArray)=sB [10] from rfl,sB_app,sB_app,List.append_assoc,List.append_assoc]
 have hnl:markF l q≠[]→0<(sB (lineI (markF l q))).size:=fun hne=>by
  rw [sB_size]
  exact List.length_pos_iff.2 fun e=>hne (line_nil hgo.1 e)
 refine wa ?_
 refine cw (hpa) ?_
 intro _ _
 ((refine rn ?_ ?_);try (with_reducible refine AllP.go ?_;first|exact og|((try simp only [OS]);repeat' (first|exact oj|refine And.intro ?_ ?_))))
 refine cw (hpr2) ?_
 intro _ _
 ((refine rn ?_ ?_);try (with_reducible refine AllP.go ?_;first|exact og|((try simp only [OS]);repeat' (first|exact oj|refine And.intro ?_ ?_))))
 (repeat (with_reducible first|refine stp ?_|refine tD rfl ?_))
 ((refine rg ?_ ?_);try (with_reducible refine AllP.go ?_;first|exact og|((try simp only [OS]);repeat' (first|exact oj|refine And.intro ?_ ?_))))
 (repeat (with_reducible first|refine stp ?_|refine tD rfl ?_))
 ((refine rg ?_ ?_);try (with_reducible refine AllP.go ?_;first|exact og|((try simp only [OS]);repeat' (first|exact oj|refine And.intro ?_ ?_))))
 (simp only [Int.toNat_natCast])
 obtain ⟨ob,hob⟩:∃ ob,ob=(l.getD q b0).opq:=⟨_,rfl⟩
 rw [← hob]
 cases ob
 ·have hob:¬ (l.getD q b0).opq=true:=by rw [← hob];decide
  by_cases hre:(l.getD q b0).red=[]
  ·have hmf:markF l q=[]:=(if_neg hob).trans (if_neg (fun k=>k hre))
   have hr0:(l.getD q b0).red.length=0:=by rw [hre];rfl
   have hmr0:markT l (q+1)=markT l q:=by rw [hms,show markR l q=[] from if_pos hmf,List.append_nil]
   refine wa ?_
   refine TE.again' (q+1) (by omega) (by omega) ?_
   rw [hmr0]
   exact ee
  ·have hmf:markF l q=[bf redW,qf (textL (pathI (nds l) q)),qf (textL (l.getD q b0).red)]:=(if_neg hob).trans (if_pos hre)
   have hr0:0<(l.getD q b0).red.length:=List.length_pos_iff.2 hre
   have hpr3:=((marks_zero hmk).2 hre).2.2.2
   have hpr4:=pcheck_iff.1 hpr3
   have hto:=rPrint_c (l.getD q b0).red (fun s hs=>by have:=(name_size (hpr4.2 s hs)).1;omega) (by omega)
   rw [show printE (l.getD q b0).red=(textS (l.getD q b0).red,0) from if_neg (fun k=>k hpr3)] at hto
   have hse:=hse0 (by rw [hmf];simp)
   have hpos:=hnl (by rw [hmf];simp)
   refine wa ?_
   refine cw (hto) ?_
   intro _ _
   refine wb ?_
   refine cw (bare_c _) ?_
   intro _ _
   ((refine rn ?_ ?_);try (with_reducible refine AllP.go ?_;first|exact og|((try simp only [OS]);repeat' (first|exact oj|refine And.intro ?_ ?_))))
   refine cw (quoted_c _) ?_
   intro _ _
   ((refine rn ?_ ?_);try (with_reducible refine AllP.go ?_;first|exact og|((try simp only [OS]);repeat' (first|exact oj|refine And.intro ?_ ?_))))
   refine cw (quoted_c _) ?_
   intro _ _
   ((refine rn ?_ ?_);try (with_reducible refine AllP.go ?_;first|exact og|((try simp only [OS]);repeat' (first|exact oj|refine And.intro ?_ ?_))))
   (refine TE.freezeN 1 (by rfl) (by rfl) ?_)
   have hj2:=hj
   rw [hmf] at hj2
   refine TE.callW (hj2) rfl (by rfl) (by rfl) rfl (by rfl) (by (first|exact trivial|((with_reducible refine AllP.go ?_);dsimp only [AllP,appP];repeat' (first|with_reducible rfl|with_reducible exact LeD.refl|refine And.intro ?_ ?_|exact vi|rfl|exact vb|exact trivial|(refine LeD.lit rfl ?_)|exact LeX.of_eq rfl|exact LeX.nil rfl|(refine LeX.lit rfl ?_)|refine nth1x ?_|refine nth2x ?_ ?_|refine nth3x ?_ ?_ ?_|refine nth4x ?_ ?_ ?_ ?_|exact LeD.refl)))) ?_
   intro _ _
   rw [← hmf]
   refine wb ?_
   refine TE.again' (q+1) (by omega) (by omega) ?_
   rw [← hse]
   exact ee
 ·have hmf:markF l q=[bf opqW,qf (textL (pathI (nds l) q))]:=if_pos hob.symm
  have hse:=hse0 (by rw [hmf];simp)
  have hpos:=hnl (by rw [hmf];simp)
  have hre:(l.getD q b0).red.length=0:=by rw [((marks_zero hmk).1 hob.symm).2];rfl
  refine wa ?_
  refine cw (bare_c _) ?_
  intro _ _
  ((refine rn ?_ ?_);try (with_reducible refine AllP.go ?_;first|exact og|((try simp only [OS]);repeat' (first|exact oj|refine And.intro ?_ ?_))))
  refine cw (quoted_c _) ?_
  intro _ _
  ((refine rn ?_ ?_);try (with_reducible refine AllP.go ?_;first|exact og|((try simp only [OS]);repeat' (first|exact oj|refine And.intro ?_ ?_))))
  (refine TE.freezeN 1 (by rfl) (by rfl) ?_)
  have hj2:=hj
  rw [hmf] at hj2
  refine TE.callW (hj2) rfl (by rfl) (by rfl) rfl (by rfl) (by (first|exact trivial|((with_reducible refine AllP.go ?_);dsimp only [AllP,appP];repeat' (first|with_reducible rfl|with_reducible exact LeD.refl|refine And.intro ?_ ?_|exact vi|rfl|exact vb|exact trivial|(refine LeD.lit rfl ?_)|exact LeX.of_eq rfl|exact LeX.nil rfl|(refine LeX.lit rfl ?_)|refine nth1x ?_|refine nth2x ?_ ?_|refine nth3x ?_ ?_ ?_|refine nth4x ?_ ?_ ?_ ?_|exact LeD.refl)))) ?_
  intro _ _
  rw [← hmf]
  refine wb ?_
  refine TE.again' (q+1) (by omega) (by omega) ?_
  rw [← hse]
  exact ee
def ReadR (x:Option (Nd×List ByteArray)) (r:Nd×List ByteArray×Bool):Prop:=r.2.2=x.isSome∧∀ y,x=some y→r=(y.1,y.2,true)
theorem readR_none {n:Nd} {p:List ByteArray}:ReadR none (n,p,false):=⟨rfl,fun y h=>by cases h⟩
theorem readR_some {n:Nd} {p:List ByteArray}:ReadR (some (n,p)) (n,p,true):=⟨rfl,fun y h=>by injection h with h;rw [← h]⟩
theorem kindN_le (w:Bs):∀ q:Nat,0≤kindN w (q+1)∧kindN w (q+1)≤q
 | 0=>by unfold kindN;split<;>exact ⟨Int.le_refl _,Int.le_refl _⟩
 | q+1=>by
  have h:=kindN_le w q
  unfold kindN
  split<;>omega
abbrev nbx (i:Nat) (k a b c:Int) (at' : A1) (d:ByteArray):Chunk:=.box i 53 [.c (.int .i64 0),.c (.string ⟨#[]⟩),.c (.int .i64 k),at',.c (.string d),.c (.int .i64 a),.c (.int .i64 b),.c (.int .i64 c)]
abbrev rrS (fs:List Fld) (x:Env) (k:Int):AS:=⟨x++[(7,.o (.ptr 1 0)),(5,.o (.ro 2 fs.length (fdC fs).cell)),(2,.o (.ptr 0 0))],[nbx 1 k 0 0 0 (.c (.slice none 0 0)) ⟨#[]⟩,nbx 0 0 0 0 0 (.c (.slice none 0 0)) ⟨#[]⟩],2⟩
abbrev rrS2 (fs:List Fld) (x:Env) (k a b c:Int) (d:ByteArray):AS:=⟨x++[(11,.o (.c (.int .i64 (firstK k)))),(10,.o (.c (.bool (datK k)))),(9,.o (.c (.int .i64 (manyK k)))),(7,.o (.ptr 1 0)),(5,.o (.ro 2 fs.length (fdC fs).cell)),(2,.o (.ptr 0 0))],[nbx 1 k a b c (.c (.slice none 0 0)) d,nbx 0 0 0 0 0 (.c (.slice none 0 0)) ⟨#[]⟩],2⟩
abbrev lbx (fs:List Fld) (j:Nat):Chunk:=.box 2 160 [.c (.int .i64 (lvalF fs j 0)),.c (.int .i64 (lvalF fs j 1)),.c (.int .i64 (lvalF fs j 2))]
abbrev lbx' (a b c:Int):Chunk:=.box 2 160 [.c (.int .i64 a),.c (.int .i64 b),.c (.int .i64 c)]
theorem drop2_get (fs:List Fld) (j:Nat):(fs.drop 2).getD j f0=fs.getD (2+j) f0:=by
 simp only [List.getD_eq_getElem?_getD,List.getElem?_drop]
theorem lval_step (fs:List Fld) (j i:Nat):lvalF fs (j+1) i=if i=j then (numP (fs.getD (2+j) f0).1).1 else lvalF fs j i:=by
 unfold lvalF
 by_cases h:i=j
 ·subst h;rw [if_pos (by omega),if_pos rfl]
 ·rw [if_neg h]
  by_cases h2:i<j
  ·rw [if_pos (by omega),if_pos h2]
  ·rw [if_neg (by omega),if_neg h2]
theorem rread_c (s:Bs) (hl:s.length≤900000):Con Tryz.prog 82 [.o (.c (.string (sB s)))] [] 0 0 (fun r:Nd×List ByteArray×Bool=>ReadR (readS s) r) (fun r=>.t [.inr (ndA r.1),.inl (.ro 1 r.2.1.length (paC r.2.1).cell),.inl (.c (.bool r.2.2))]) (fun _=>[]):=by
 refine con_of Tryz.func82 rfl (by kernel_rfl) Tryz.ntmps82 rfl (by first | exact Nat.zero_le _ | decide) (fun _=>⟨rfl,rfl⟩) fun w S ν=>?_
 obtain ⟨h64,h2000⟩:=split_fine s
 have hsp:=rSplit_c s (by omega)
 have hse:=split_err (s:=s)
 unfold readS
 generalize splitI s=x at *
 obtain ⟨fs,e⟩:=x
 dsimp only at *
 refine wa ?_
 refine cw (hsp) ?_
 intro _ _
 by_cases h0:e≠0
 ·have hr0:readF fs=none:=by rw [hse h0];rfl
  rw [hr0]
  refine wb ?_
  (refine TE.ret' io rfl tysOk ((n0,[],false)) ?_ rfl (by rfl) ?_;all_goals (try (first|exact trivial|((with_reducible refine AllP.go ?_);dsimp only [AllP,appP];repeat' (first|refine And.intro ?_ ?_|exact zz)))))
  exact readR_none
 have he:e=0:=Decidable.not_not.1 h0
 subst he
 by_cases h1:fs.length<2
 ·have hr0:=rf_short (fs:=fs) (.inl h1)
  rw [hr0]
  refine wb ?_
  (refine TE.ret' io rfl tysOk ((n0,[],false)) ?_ rfl (by rfl) ?_;all_goals (try (first|exact trivial|((with_reducible refine AllP.go ?_);dsimp only [AllP,appP];repeat' (first|refine And.intro ?_ ?_|exact zz)))))
  exact readR_none
 rcases fs with _ | ⟨⟨w,a⟩,_ | ⟨⟨p,b⟩,r⟩⟩
 ·exact absurd (Nat.zero_lt_succ 1) h1
 ·exact absurd (Nat.lt_succ_self 1) h1
 have hlp:2≤((w,a) :: (p,b) :: r).length:=by simp
 cases a
 rotate_left
 ·rw [rf_short (.inr (.inl rfl))]
  refine wb ?_
  (refine TE.ret' io rfl tysOk ((n0,[],false)) ?_ rfl (by rfl) ?_;all_goals (try (first|exact trivial|((with_reducible refine AllP.go ?_);dsimp only [AllP,appP];repeat' (first|refine And.intro ?_ ?_|exact zz)))))
  exact readR_none
 cases b
 ·rw [rf_short (.inr (.inr rfl))]
  refine wb ?_
  (refine TE.ret' io rfl tysOk ((n0,[],false)) ?_ rfl (by rfl) ?_;all_goals (try (first|exact trivial|((with_reducible refine AllP.go ?_);dsimp only [AllP,appP];repeat' (first|refine And.intro ?_ ?_|exact zz)))))
  exact readR_none
 refine wb ?_
 have hkl:(strsC kindL).n=6:=rfl
 have hkl2:kindL.length=6:=rfl
 have hkn:∀ q:Nat,kindN w (q+1)=if kindL.getD q []=w then (q:Int) else kindN w q:=fun _=>rfl
 obtain ⟨fs,hfs⟩:∃ fs,fs=(w,false) :: (p,true) :: r:=⟨_,rfl⟩
 have g0:(fs.getD 0 f0).1=w:=by rw [hfs];rfl
 have g1:(fs.getD 1 f0).1=p:=by rw [hfs];rfl
 have hH:HdF fs (kindOf w):=⟨by rw [hfs];exact hlp,by rw [hfs];rfl,by rw [hfs];rfl,by rw [g0]⟩
 rw [← hfs] at h64 h2000 hlp⊢
 clear hsp hse h0 h1
 (refine TE.only [8,7,5,2] (by rfl) ?_)
 refine TE.loopG (fun q:Nat=>1≤q∧q≤6) (fun q=>[(8,.o (.c (.int .i64 q)))]) [1] (fun q=>[.box 1 53 [.c (.int .i64 0),.c (.string ⟨#[]⟩),.c (.int .i64 (kindN w q)),.c (.slice none 0 0),.c (.string ⟨#[]⟩),.c (.int .i64 0),.c (.int .i64 0),.c (.int .i64 0)]]) (fun q=>6 - q) 1 (by rfl) ⟨Nat.le_refl _,by decide⟩ ?_ ?_
 ·have e:kindN w 1=0:=by unfold kindN;split<;>rfl
  rw [e]
  exact ee
 intro q hq
 refine wa ?_
 refine cw (words_c) ?_
 intro _ _
 ((refine rn ?_ ?_);try (with_reducible refine AllP.go ?_;first|exact og|((try simp only [OS]);repeat' (first|exact oj|refine And.intro ?_ ?_))))
 (repeat (with_reducible first|refine stp ?_|refine tD rfl ?_))
 (refine TE.cond_split (by rfl) ?_ ?_<;>intro h<;>(try simp only [NS] at h)<;>(try (exfalso;first | omega | exact h trivial | exact h | exact h rfl | contradiction)))
 ·(repeat (with_reducible first|refine stp ?_|refine tD rfl ?_))
  (refine TE.only [8,7,5,2] (by rfl) ?_)
  refine TE.drawK (fun i=>Nat.beq i 0 || Nat.beq i 1) (by rfl) (by rfl) (by rfl) ?_
  refine wf ?_
  refine StepL.callW (words_c) rfl rfl rfl rfl rfl (by rfl) (by (first|exact trivial|((with_reducible refine AllP.go ?_);dsimp only [AllP,appP];repeat' (first|refine And.intro ?_ ?_|exact zz|assumption)))) (by rfl) (by rfl) ?_
  intro _ _
  refine wf ?_
  (repeat' (first|(with_reducible refine AllP.go ?_;first|exact og|((try simp only [OS]);repeat' (first|exact oj|refine And.intro ?_ ?_)))|(refine rg ?_ ?_)|(with_reducible first|refine stp ?_|refine tD rfl ?_)|refine ct ?_|refine cf ?_|((first|refine gs ?_ ?_|refine gl ?_ ?_|refine gc ?_ ?_)<;>intro h<;>(try simp only [NS] at h)<;>(try exact xf)<;>(try refine rn ?_ ?_))))
  ·have e:kindN w (q+1)=(q:Int):=(hkn q).trans (if_pos ((sB_inj.1 h).trans g0))
   refine TE.again' (q+1) (by omega) (by omega) ?_
   rw [e]
   exact ee
  ·have e:kindN w (q+1)=kindN w q:=(hkn q).trans (if_neg (fun k=>h (sB_inj.2 (k.trans g0.symm))))
   refine TE.again' (q+1) (by omega) (by omega) ?_
   rw [e]
   exact ee
 obtain rfl:q=6:=by omega
 rw [show kindN w 6=kindOf w from rfl]
 have hk5:0≤kindOf w∧kindOf w≤5:=kindN_le w 5
 clear hkn
 generalize kindOf w=k at *
 (repeat (with_reducible first|refine stp ?_|refine tD rfl ?_))
 have hk6:k=0∨k=1∨k=2∨k=3∨k=4∨k=5:=by omega
 (refine TE.mid (ι:=Unit) (fun _=>True) (fun _=>rrS fs [(9,.o (.c (.int .i64 (manyK k))))] k) ?_ fun _ _=>?_)
 ·rcases hk6 with rfl | rfl | rfl | rfl | rfl | rfl
  all_goals refine wa ?_
  all_goals exact aa
 refine TE.thenN ?_
 (refine TE.seqM (ι:=Unit) (fun _=>True) (fun _=>rrS fs [(10,.o (.c (.bool (datK k)))),(9,.o (.c (.int .i64 (manyK k))))] k) ?_ fun _ _=>?_)
 ·rcases hk6 with rfl | rfl | rfl | rfl | rfl | rfl
  all_goals refine wa ?_
  all_goals exact aa
 have hm:manyK k≤3:=by unfold manyK;split;decide;split<;>decide
 (refine TE.seqM (ι:=Unit) (fun _=>True) (fun _=>rrS fs [(11,.o (.c (.int .i64 (2+manyK k:Nat)))),(10,.o (.c (.bool (datK k)))),(9,.o (.c (.int .i64 (manyK k))))] k) ?_ fun _ _=>?_)
 ·refine wa ?_
  exact aa
 (refine TE.seqM (ι:=Unit) (fun _=>True) (fun _=>rrS fs [(11,.o (.c (.int .i64 (firstK k)))),(10,.o (.c (.bool (datK k)))),(9,.o (.c (.int .i64 (manyK k))))] k) ?_ fun _ _=>?_)
 ·rcases hk6 with rfl | rfl | rfl | rfl | rfl | rfl
  all_goals refine wa ?_
  all_goals exact aa
 have hf:firstK k≤5:=by rcases hk6 with rfl | rfl | rfl | rfl | rfl | rfl<;>decide
 by_cases hk0:k=0
 ·subst hk0
  rw [rf_kind hH]
  refine wa ?_
  (refine TE.ret' io rfl tysOk ((n0,[],false)) ?_ rfl (by rfl) ?_;all_goals (try (first|exact trivial|((with_reducible refine AllP.go ?_);dsimp only [AllP,appP];repeat' (first|refine And.intro ?_ ?_|exact zz)))))
  exact readR_none
 by_cases hl1:fs.length<firstK k
 ·rw [rf_rest hH (restF_no (.inl (by rw [List.length_drop];omega)))]
  refine wa ?_
  (refine TE.ret' io rfl tysOk ((n0,[],false)) ?_ rfl (by rfl) ?_;all_goals (try (first|exact trivial|((with_reducible refine AllP.go ?_);dsimp only [AllP,appP];repeat' (first|refine And.intro ?_ ?_|exact zz)))))
  exact readR_none
 by_cases he:(fs.length - firstK k) % 2≠0
 ·rw [rf_rest hH (restF_no (.inr (.inl (by rw [List.length_drop,show fs.length - 2+2=fs.length by omega];exact he))))]
  refine wa ?_
  (refine TE.ret' io rfl tysOk ((n0,[],false)) ?_ rfl (by rfl) ?_;all_goals (try (first|exact trivial|((with_reducible refine AllP.go ?_);dsimp only [AllP,appP];repeat' (first|refine And.intro ?_ ?_|exact zz)))))
  exact readR_none
 have he:=Decidable.not_not.1 he
 refine wa ?_
 (refine TE.only [13,12,11,10,9,7,5,2] (by rfl) ?_)
 refine TE.loopG (fun j:Nat=>j≤manyK k∧∀ i,i<j→(fs.getD (2+i) f0).2=false∧(numP (fs.getD (2+i) f0).1).2=0) (fun j=>[(13,.o (.c (.int .i64 j)))]) [2] (fun j=>[lbx fs j]) (fun j=>manyK k - j) 0 (by rfl) ⟨Nat.zero_le _,fun i h=>absurd h (Nat.not_lt_zero _)⟩ ?_ ?_
 ·exact ee
 intro j hj
 by_cases hlt:j<manyK k
 ·have hfk:2+manyK k≤firstK k:=by unfold firstK;omega
  have hxl:=h2000 _ (getD_mem (l:=fs) (d:=f0) (show 2+j<fs.length by omega))
  have hi:=rInt_c (fs.getD (2+j) f0).1 (-9223372036854775808) 9223372036854775807 (by omega)
  obtain ⟨v,e,hv⟩:∃ v e,numP (fs.getD (2+j) f0).1=(v,e):=⟨_,_,rfl⟩
  rw [show intI (fs.getD (2+j) f0).1 (-9223372036854775808) 9223372036854775807=(v,e) from hv] at hi
  have hno:(fs.getD (2+j) f0).2=true∨e≠0→readF fs=none:=fun g=>rf_rest hH (restF_no (.inr (.inr (.inl ⟨j,hlt,by rw [List.length_drop];omega,by rw [drop2_get,hv];exact g⟩))))
  refine wa ?_
  refine cw (hi) ?_
  intro _ _
  by_cases he0:e=0
  ·subst he0
   ((refine rn ?_ ?_);try (with_reducible refine AllP.go ?_;first|exact og|((try simp only [OS]);repeat' (first|exact oj|refine And.intro ?_ ?_))))
   (repeat (with_reducible first|refine stp ?_|refine tD rfl ?_))
   ((refine rg ?_ ?_);try (with_reducible refine AllP.go ?_;first|exact og|((try simp only [OS]);repeat' (first|exact oj|refine And.intro ?_ ?_))))
   refine TE.gsplit (by rfl) (by rfl) ?_ ?_<;>(intro h;(try simp only [NS] at h))
   all_goals try (exfalso;exact absurd h (by decide))
   iterate 6 (refine TE.step rfl rfl rfl (fun _ h=>nomatch h) (m_pure tysOk rfl ?_) ?_;rotate_left;rintro _ rfl;rotate_right;(with_reducible refine AllP.go ?_;first|exact og|((try simp only [OS]);repeat' (first|exact oj|refine And.intro ?_ ?_))))
   refine TE.norm (by rfl) ?_
   (simp only [Int.toNat_natCast])
   obtain ⟨b,hb⟩:∃ b,b=(fs.getD (2+(j:Int)).toNat ([],false)).2:=⟨_,rfl⟩
   have hb2:b=(fs.getD (2+j) f0).2:=hb
   rw [← hb]
   cases b
   ·((refine rn ?_ ?_);try (with_reducible refine AllP.go ?_;first|exact og|((try simp only [OS]);repeat' (first|exact oj|refine And.intro ?_ ?_))))
    refine wa ?_
    have e0:=fun i=>(lval_step fs j i).trans (by rw [hv])
    have hj3:j=0∨j=1∨j=2:=by omega
    have hnx:∀ i,i<j+1→(fs.getD (2+i) f0).2=false∧(numP (fs.getD (2+i) f0).1).2=0:=fun i h=>by
     by_cases h2:i<j
     ·exact hj.2 i h2
     ·obtain rfl:i=j:=by omega
      exact ⟨hb2.symm,by rw [hv]⟩
    rcases hj3 with rfl | rfl | rfl
    all_goals (refine TE.step rfl rfl rfl (fun _ h=>nomatch h) (m_boxIdx tysOk rfl (Tryz.underlying160) rfl rfl rfl rfl ?_) ?_;rotate_left;rintro _ rfl;rotate_right)
    all_goals first | (exact ⟨by omega,by omega⟩) | skip
    all_goals refine TE.norm (by rfl) ?_
    all_goals (simp only [Int.toNat_natCast])
    all_goals refine wb ?_
    ·refine TE.again' 1 ⟨hlt,hnx⟩ (by omega) ?_
     rw [show lbx fs 1=lbx' v 0 0 from by unfold lbx lbx';rw [e0,e0,e0];rfl]
     exact ee
    ·refine TE.again' 2 ⟨hlt,hnx⟩ (by omega) ?_
     rw [show lbx fs 2=lbx' (lvalF fs 1 0) v 0 from by unfold lbx lbx';rw [e0,e0,e0];rfl]
     exact ee
    ·refine TE.again' 3 ⟨hlt,hnx⟩ (by omega) ?_
     rw [show lbx fs 3=lbx' (lvalF fs 2 0) (lvalF fs 2 1) v from by unfold lbx lbx';rw [e0,e0,e0];rfl]
     exact ee
   ·rw [hno (.inl hb2.symm)]
    ((refine rn ?_ ?_);try (with_reducible refine AllP.go ?_;first|exact og|((try simp only [OS]);repeat' (first|exact oj|refine And.intro ?_ ?_))))
    refine wa ?_
    (refine TE.ret' io rfl tysOk ((n0,[],false)) ?_ rfl (by rfl) ?_;all_goals (try (first|exact trivial|((with_reducible refine AllP.go ?_);dsimp only [AllP,appP];repeat' (first|refine And.intro ?_ ?_|exact zz)))))
    exact readR_none
  ·rw [hno (.inr he0)]
   refine wb ?_
   (refine TE.ret' io rfl tysOk ((n0,[],false)) ?_ rfl (by rfl) ?_;all_goals (try (first|exact trivial|((with_reducible refine AllP.go ?_);dsimp only [AllP,appP];repeat' (first|refine And.intro ?_ ?_|exact zz)))))
   exact readR_none
 ·obtain rfl:j=manyK k:=by omega
  refine wa ?_
  (refine TE.only [12,11,10,9,7,5,2] (by rfl) ?_)
  obtain ⟨l0,hl0⟩:∃ x,x=lvalF fs (manyK k) 0:=⟨_,rfl⟩
  obtain ⟨l1,hl1⟩:∃ x,x=lvalF fs (manyK k) 1:=⟨_,rfl⟩
  obtain ⟨l2,hl2⟩:∃ x,x=lvalF fs (manyK k) 2:=⟨_,rfl⟩
  rw [← hl0,← hl1,← hl2]
  (refine TE.mid (ι:=Unit) (fun _=>True) (fun _=>rrS2 fs [] k l1 l2 l0 ⟨#[]⟩) ?_ fun _ _=>?_)
  ·refine TE.drawK (fun i=>Nat.beq i 0 || Nat.beq i 2) (by rfl) (by rfl) (by rfl) ?_
   (repeat' (first|(with_reducible refine AllP.go ?_;first|exact og|((try simp only [OS]);repeat' (first|exact oj|refine And.intro ?_ ?_)))|(with_reducible first|exact PanicOk.body|exact rd.panic|refine PanicOk.then' ?_|refine PanicOk.block ?_|refine PanicOk.jump ?_)|(refine TL.done (by rfl) ?_)|(refine TL.auto tysOk rfl ?_ (by rfl) ?_ ?_)|(refine sm ?_ ?_)|(refine sp ?_ ?_)|(refine TL.one (by rfl) ?_)|(refine TL.two (by rfl) ?_ ?_)|(refine TL.three (by rfl) ?_ ?_ ?_)|(refine TL.four (by rfl) ?_ ?_ ?_ ?_)))
   all_goals ((refine StepL.law rfl rfl rfl (fun _ h=>nomatch h) rfl (m_boxIdx tysOk rfl (Tryz.underlying160) rfl rfl rfl rfl ?_) (by rfl) ?_;rotate_left;rintro _ rfl;rotate_right)<;>first | omega | skip)
   all_goals (repeat' (first|(with_reducible refine AllP.go ?_;first|exact og|((try simp only [OS]);repeat' (first|exact oj|refine And.intro ?_ ?_)))|(with_reducible first|exact PanicOk.body|exact rd.panic|refine PanicOk.then' ?_|refine PanicOk.block ?_|refine PanicOk.jump ?_)|(refine TL.done (by rfl) ?_)|(refine TL.auto tysOk rfl ?_ (by rfl) ?_ ?_)|(refine sm ?_ ?_)|(refine sp ?_ ?_)|(refine TL.one (by rfl) ?_)|(refine TL.two (by rfl) ?_ ?_)|(refine TL.three (by rfl) ?_ ?_ ?_)|(refine TL.four (by rfl) ?_ ?_ ?_ ?_)))
   all_goals (try ((refine StepL.law rfl rfl rfl (fun _ h=>nomatch h) rfl (m_boxIdx tysOk rfl (Tryz.underlying160) rfl rfl rfl rfl ?_) (by rfl) ?_;rotate_left;rintro _ rfl;rotate_right)<;>first | omega | skip))
   all_goals (repeat' (first|(with_reducible refine AllP.go ?_;first|exact og|((try simp only [OS]);repeat' (first|exact oj|refine And.intro ?_ ?_)))|(with_reducible first|exact PanicOk.body|exact rd.panic|refine PanicOk.then' ?_|refine PanicOk.block ?_|refine PanicOk.jump ?_)|(refine TL.done (by rfl) ?_)|(refine TL.auto tysOk rfl ?_ (by rfl) ?_ ?_)|(refine sm ?_ ?_)|(refine sp ?_ ?_)|(refine TL.one (by rfl) ?_)|(refine TL.two (by rfl) ?_ ?_)|(refine TL.three (by rfl) ?_ ?_ ?_)|(refine TL.four (by rfl) ?_ ?_ ?_ ?_)))
   all_goals (try ((refine StepL.law rfl rfl rfl (fun _ h=>nomatch h) rfl (m_boxIdx tysOk rfl (Tryz.underlying160) rfl rfl rfl rfl ?_) (by rfl) ?_;rotate_left;rintro _ rfl;rotate_right)<;>first | omega | skip))
   all_goals refine wf ?_
   all_goals exact aa
  refine TE.thenN ?_
  refine wa ?_
  have hfk:2+manyK k≤firstK k:=by unfold firstK;omega
  refine TE.loopG (fun j:Nat=>2+manyK k≤j∧j≤fs.length∧∀ i,2+manyK k≤i→i<j→(fs.getD i f0).2=true) (fun j=>[(16,.o (.c (.int .i64 j)))]) [] (fun _=>[]) (fun j=>fs.length - j) (2+manyK k) (by rfl) ⟨Nat.le_refl _,by omega,fun i h h2=>absurd h2 (by omega)⟩ ?_ ?_
  ·exact ee
  intro j hq
  by_cases hlt:j<fs.length
  ·refine wa ?_
   obtain ⟨b,hb⟩:∃ b,b=(fs.getD (j:Int).toNat ([],false)).2:=⟨_,rfl⟩
   have hb2:b=(fs.getD j f0).2:=hb
   rw [← hb]
   cases b
   ·rw [rf_rest hH (restF_no (.inr (.inr (.inr ⟨j - 2,by omega,by rw [List.length_drop];omega,by rw [drop2_get,show 2+(j - 2)=j by omega];exact hb2.symm⟩))))]
    refine wa ?_
    (refine TE.ret' io rfl tysOk ((n0,[],false)) ?_ rfl (by rfl) ?_;all_goals (try (first|exact trivial|((with_reducible refine AllP.go ?_);dsimp only [AllP,appP];repeat' (first|refine And.intro ?_ ?_|exact zz)))))
    exact readR_none
   ·refine wa ?_
    refine TE.again' (j+1) ⟨by omega,by omega,fun i h1 h2=>?_⟩ (by omega) ?_
    ·by_cases h3:i<j
     ·exact hq.2.2 i h1 h3
     ·obtain rfl:i=j:=by omega
      exact hb2.symm
    ·exact ee
  obtain rfl:j=fs.length:=by omega
  refine wa ?_
  obtain ⟨d,hd⟩:∃ d,d=if datK k=true then sB (fs.getD (2+manyK k) f0).1 else eS:=⟨_,rfl⟩
  (refine TE.mid (ι:=Unit) (fun _=>True) (fun _=>rrS2 fs [] k l1 l2 l0 d) ?_ fun _ _=>?_)
  ·obtain ⟨D,hD⟩:∃ D,D=datK k:=⟨_,rfl⟩
   rw [← hD] at hd⊢
   cases D
   ·rw [hd,if_neg (by decide)]
    refine wa ?_
    exact aa
   ·have h1:2+manyK k<fs.length:=by
     have:firstK k=2+manyK k+1:=by unfold firstK;rw [← hD];rfl
     omega
    rw [hd,if_pos rfl]
    refine wa ?_
    exact aa
  have hok:=rf_ok hH hk0 (by omega) he hj.2 hq.2.2
  rw [← hl0,← hl1,← hl2,← hd] at hok
  clear hl0 hl1 hl2 hd
  have hbad:(pparseE (fs.getD 1 f0).1).2≠0→readF fs=none:=fun h=>rf_path hH h
  obtain ⟨M,hM⟩:∃ M,M=(fs.length - firstK k) / 2:=⟨_,rfl⟩
  rw [← hM] at hok
  have hpl:=h2000 _ (getD_mem (l:=fs) (d:=f0) (show 1<fs.length by omega))
  have hpp:=rpParse_c (fs.getD 1 f0).1 (by omega)
  refine TE.thenN ?_
  refine wa ?_
  refine TE.nilBox 1 3 39 2 (by rfl) (by rfl) ?_
  (refine TE.only [17,7,5,2] (by rfl) ?_)
  refine TE.loopG (fun q:Nat=>q≤M) (fun q=>[(17,.o (.c (.int .i64 (firstK k+2*q:Nat))))]) [1,2] (fun q=>[nbx 1 k l1 l2 l0 (.own 2) d,.own 2 39 2 (atC (pairsAt fs (firstK k) q))]) (fun q=>M - q) 0 (by rfl) (Nat.zero_le _) ?_ ?_
  ·(refine Ent.of rfl rfl (by rfl) ?_;(try (first|exact trivial|((with_reducible refine AllP.go ?_);dsimp only [AllP,appP];repeat' (first|refine And.intro ?_ ?_|exact zz)))))
   exact LeDC.nil rfl rfl
  intro q hq2
  have hpn:(pairsAt fs (firstK k) q).length=q:=by unfold pairsAt;rw [List.length_map,List.length_range]
  by_cases hlt:q<M
  ·refine wa ?_
   (refine TE.only [17,7,5,2] (by rfl) ?_)
   ((refine TE.drawK (fun _=>false) (by rfl) (by rfl) (by rfl) ?_);(repeat' (first|(with_reducible refine AllP.go ?_;first|exact og|((try simp only [OS]);repeat' (first|exact oj|refine And.intro ?_ ?_)))|(with_reducible first|exact PanicOk.body|exact rd.panic|refine PanicOk.then' ?_|refine PanicOk.block ?_|refine PanicOk.jump ?_)|(refine TL.done (by rfl) ?_)|(refine TL.auto tysOk rfl ?_ (by rfl) ?_ ?_)|(refine sm ?_ ?_)|(refine sp ?_ ?_)|(refine TL.one (by rfl) ?_)|(refine TL.two (by rfl) ?_ ?_)|(refine TL.three (by rfl) ?_ ?_ ?_)|(refine TL.four (by rfl) ?_ ?_ ?_ ?_))))
   all_goals first | omega | skip
   all_goals refine wa ?_
   all_goals refine TE.again' (q+1) (by omega) (by omega) ?_
   all_goals (refine Ent.of rfl rfl (by rfl) ?_;(try (first|exact trivial|((with_reducible refine AllP.go ?_);dsimp only [AllP,appP];repeat' (first|refine And.intro ?_ ?_|exact zz)))))
   all_goals exact listC_snoc _ (pairsAt_succ ..) (nth2 rfl rfl)
  ·obtain rfl:q=M:=by omega
   refine wa ?_
   refine cw (hpp) ?_
   intro _ _
   generalize pparseE (fs.getD 1 f0).1=P at *
   obtain ⟨pp,pe⟩:=P
   (refine TE.freezeN 2 (by rfl) (by rfl) ?_)
   refine wb ?_
   (refine TE.ret' io rfl tysOk ((⟨0,eS,k,pairsAt fs (firstK k) q,d,l1,l2,l0⟩,pp,decide (pe=0))) ?_ rfl (by rfl) ?_;all_goals (try (first|exact trivial|((with_reducible refine AllP.go ?_);dsimp only [AllP,appP];repeat' (first|refine And.intro ?_ ?_|exact zz)))))
   by_cases h0:pe=0
   ·rw [hok h0,decide_eq_true h0]
    exact readR_some
   ·rw [hbad h0,decide_eq_false h0]
    exact readR_none
abbrev rdH (r:Rd):List Chunk:=[.box 0 153 [.ro 2 r.1.length (fdC r.1).cell,.c (.bool r.2)]]
theorem fd_tail (x:Fld) (t:List Fld) {n:Nat} {c:Nat→Nat→DC} (hn:n=t.length) (hc:∀ i j,c i j=(fdC (x :: t)).cell (1+i) j):LeD 2 n c t.length (fdC t).cell:=
 ⟨hn,fun i j hi hj=>LeX.of_eq (by
  rw [hc]
  show fdR ((x :: t).getD (1+i) ([],false)) j=fdR (t.getD i ([],false)) j
  rw [Nat.add_comm]
  rfl)⟩
theorem next_c (q:Bool) (r:Rd) (hr:r.1.length≤1000000):Con Tryz.prog 113 [.o (.ptr 0 0),.o (.c (.bool q))] (rdH r) 1 1 U (fun _=>.o (.c (.string (sB (nextR q r).1)))) (fun _=>rdH (nextR q r).2):=by
 refine con_of Tryz.func113 rfl (by kernel_rfl) Tryz.ntmps113 rfl (by first | exact Nat.zero_le _ | decide) (fun _=>⟨rfl,rfl⟩) fun w S ν=>?_
 match r,hr with
 | ([],b),_=>
  refine wa ?_
  exact po
 | ((s,b) :: t,c),hr=>
  simp only [List.length_cons] at hr
  cases q<;>cases b
  ·rw [next_ff]
   (repeat' (first|(with_reducible refine AllP.go ?_;first|exact og|((try simp only [OS]);repeat' (first|exact oj|refine And.intro ?_ ?_)))|(refine rg ?_ ?_)|(with_reducible first|refine stp ?_|refine tD rfl ?_)|refine ct ?_|refine cf ?_|((first|refine gs ?_ ?_|refine gl ?_ ?_|refine gc ?_ ?_)<;>intro h<;>(try simp only [NS] at h)<;>(try exact xf)<;>(try refine rn ?_ ?_))))
   ·exact absurd h (by simp;omega)
   ·(refine TE.ret' io rfl tysOk (()) ?_ rfl (by rfl) ?_;all_goals (try (first|exact trivial|((with_reducible refine AllP.go ?_);dsimp only [AllP,appP];repeat' (first|refine And.intro ?_ ?_|exact zz)))))
    exact fd_tail _ _ (by simp) fun _ _=>rfl
  ·rw [next_ft]
   (repeat' (first|(with_reducible refine AllP.go ?_;first|exact og|((try simp only [OS]);repeat' (first|exact oj|refine And.intro ?_ ?_)))|(refine rg ?_ ?_)|(with_reducible first|refine stp ?_|refine tD rfl ?_)|refine ct ?_|refine cf ?_|((first|refine gs ?_ ?_|refine gl ?_ ?_|refine gc ?_ ?_)<;>intro h<;>(try simp only [NS] at h)<;>(try exact xf)<;>(try refine rn ?_ ?_))))
   ·exact absurd h (by simp;omega)
   ·exact po
  ·rw [next_tf]
   (repeat' (first|(with_reducible refine AllP.go ?_;first|exact og|((try simp only [OS]);repeat' (first|exact oj|refine And.intro ?_ ?_)))|(refine rg ?_ ?_)|(with_reducible first|refine stp ?_|refine tD rfl ?_)|refine ct ?_|refine cf ?_|((first|refine gs ?_ ?_|refine gl ?_ ?_|refine gc ?_ ?_)<;>intro h<;>(try simp only [NS] at h)<;>(try exact xf)<;>(try refine rn ?_ ?_))))
   ·exact absurd h (by simp;omega)
   ·exact po
  ·rw [next_tt]
   (repeat' (first|(with_reducible refine AllP.go ?_;first|exact og|((try simp only [OS]);repeat' (first|exact oj|refine And.intro ?_ ?_)))|(refine rg ?_ ?_)|(with_reducible first|refine stp ?_|refine tD rfl ?_)|refine ct ?_|refine cf ?_|((first|refine gs ?_ ?_|refine gl ?_ ?_|refine gc ?_ ?_)<;>intro h<;>(try simp only [NS] at h)<;>(try exact xf)<;>(try refine rn ?_ ?_))))
   ·exact absurd h (by simp;omega)
   ·(refine TE.ret' io rfl tysOk (()) ?_ rfl (by rfl) ?_;all_goals (try (first|exact trivial|((with_reducible refine AllP.go ?_);dsimp only [AllP,appP];repeat' (first|refine And.intro ?_ ?_|exact zz)))))
    exact fd_tail _ _ (by simp) fun _ _=>rfl
theorem number_c (m:Int) (te:TypeId) (pe:Value) (r:Rd) (hr:r.1.length≤1000000) (hs:∀ f∈r.1,f.1.length≤1000000):Con Tryz.prog 114 [.o (.ptr 4 0)] (glC m te pe++[.box 4 153 [.ro 2 r.1.length (fdC r.1).cell,.c (.bool r.2)]]) 5 5 U (fun _=>.o (.c (.int .i64 (numR r).1))) (fun _=>glC m te pe++[.box 4 153 [.ro 2 (numR r).2.1.length (fdC (numR r).2.1).cell,.c (.bool (numR r).2.2)]]):=by
 refine con_of Tryz.func114 rfl (by kernel_rfl) Tryz.ntmps114 rfl (by first | exact Nat.zero_le _ | decide) (fun _=>⟨rfl,rfl⟩) fun w S ν=>?_
 have hn:=next_c false r hr
 have hsl:(nextR false r).1.length≤1000000:=by
  unfold nextR
  split
  ·simp
  ·rename_i x t e
   split
   ·simp
   ·exact hs x (by rw [e];exact List.mem_cons_self ..)
 have hi:=Int_c m te pe (nextR false r).1 (-9223372036854775808) 9223372036854775807 hsl
 refine wa ?_
 refine cw (hn) ?_
 intro _ _
 ((refine rn ?_ ?_);try (with_reducible refine AllP.go ?_;first|exact og|((try simp only [OS]);repeat' (first|exact oj|refine And.intro ?_ ?_))))
 refine cw (hi) ?_
 intro _ _
 have e1:(numR r).1=(numP (nextR false r).1).1:=rfl
 have e2:(numR r).2.1=(nextR false r).2.1:=rfl
 have e3:(numR r).2.2=((nextR false r).2.2 || decide ((numP (nextR false r).1).2≠0)):=rfl
 have e4:numP (nextR false r).1=intI (nextR false r).1 (-9223372036854775808) 9223372036854775807:=rfl
 rw [e1,e2,e3,e4]
 generalize intI (nextR false r).1 (-9223372036854775808) 9223372036854775807=x
 obtain ⟨x1,x2⟩:=x
 generalize nextR false r=y
 obtain ⟨s,fs,b⟩:=y
 dsimp only
 cases b
 ·refine wb ?_
  (refine TE.ret' io rfl tysOk (()) ?_ rfl (by rfl) ?_;all_goals (try (first|exact trivial|((with_reducible refine AllP.go ?_);dsimp only [AllP,appP];repeat' (first|refine And.intro ?_ ?_|exact zz)))))
  ·refine congrArg Value.bool ?_
   by_cases h:x2=0<;>simp [h]
 ·refine wb ?_
  exact po
abbrev rd0 (s:Bs):Rd:=((splitI s).1,!decide ((splitI s).2=0))
theorem nextR_sub (q:Bool) (r:Rd):∀ f∈(nextR q r).2.1,f∈r.1:=by
 intro f hf
 unfold nextR at hf
 split at hf
 ·cases hf
 ·rename_i x t e
  rw [e]
  split at hf
  ·exact hf
  ·exact List.mem_cons_of_mem _ hf
theorem nextR_str {q:Bool} {r:Rd} {N:Nat} (h:∀ f∈r.1,f.1.length≤N):(nextR q r).1.length≤N:=by
 unfold nextR
 split
 ·exact Nat.zero_le _
 ·rename_i x t e
  split
  ·exact Nat.zero_le _
  ·exact h x (by rw [e];exact List.mem_cons_self ..)
def rdOk (r:Rd):Prop:=r.1.length≤64∧∀ f∈r.1,f.1.length≤2000
theorem rdOk.next {r:Rd} (h:rdOk r) (q:Bool):rdOk (nextR q r).2:=⟨Nat.le_trans (nextR_le q r) h.1,fun f hf=>h.2 f (nextR_sub q r f hf)⟩
theorem rdOk.num {r:Rd} (h:rdOk r):rdOk (numR r).2:=h.next false
abbrev rdS (m:Int) (te:TypeId) (pe:Value) (k:Int) (p:List ByteArray) (r:Rd) (c:Int) (d:ByteArray) (a b:Int):AS:=⟨[(12,.o (.ro 1 p.length (paC p).cell)),(8,.o (.ptr 7 0)),(7,.o (.ptr 6 0)),(2,.o (.ptr 5 0))],.box 6 153 [.ro 2 r.1.length (fdC r.1).cell,.c (.bool r.2)] :: .box 7 53 [.c (.int .i64 0),.c (.string ⟨#[]⟩),.c (.int .i64 k),.c (.slice none 0 0),.c (.string d),.c (.int .i64 a),.c (.int .i64 b),.c (.int .i64 c)] :: .box 5 53 [.c (.int .i64 0),.c (.string ⟨#[]⟩),.c (.int .i64 0),.c (.slice none 0 0),.c (.string ⟨#[]⟩),.c (.int .i64 0),.c (.int .i64 0),.c (.int .i64 0)] :: glT m te pe,8⟩
theorem read_c (m:Int) (te:TypeId) (pe:Value) (s:Bs) (hl:s.length≤900000):Con Tryz.prog 78 [.o (.c (.string (sB s)))] (glT m te pe) 5 5 U (fun _=>.t [.inr (ndA (readK (rd0 s)).1),.inl (.ro 1 (readK (rd0 s)).2.1.length (paC (readK (rd0 s)).2.1).cell),.inl (.c (.bool (readK (rd0 s)).2.2))]) (fun _=>glT m te pe):=by
 refine con_of Tryz.func78 rfl (by kernel_rfl) Tryz.ntmps78 rfl (by first | exact Nat.zero_le _ | decide) (fun _=>⟨rfl,rfl⟩) fun w S ν=>?_
 obtain ⟨h64,h2000⟩:=split_fine s
 have hsp:=Split_c m te pe s (by omega)
 refine wa ?_
 refine cw (hsp) ?_
 intro _ _
 refine wb ?_
 obtain ⟨r0,hr0⟩:∃ r0,r0=rd0 s:=⟨_,rfl⟩
 have hr1:(splitI s).1=r0.1:=by rw [hr0]
 have hr2:(!decide ((splitI s).2=0))=r0.2:=by rw [hr0]
 rw [← hr0]
 rw [hr1] at h64 h2000⊢
 rw [hr2]
 refine cw (next_c false r0 (by omega)) ?_
 intro _ _
 refine wb ?_
 obtain ⟨w1,hw1⟩:∃ w1,w1=nextR false r0:=⟨_,rfl⟩
 rw [← hw1]
 (refine TE.step rfl rfl rfl (fun _ h=>nomatch h) (m_statLoad tysOk rfl rfl (by rfl) (by rfl)) ?_;rintro _ rfl)
 ((refine rn ?_ ?_);try (with_reducible refine AllP.go ?_;first|exact og|((try simp only [OS]);repeat' (first|exact oj|refine And.intro ?_ ?_))))
 (repeat (with_reducible first|refine stp ?_|refine tD rfl ?_))
 have hkn:∀ q:Nat,kindN w1.1 (q+1)=if kindL.getD q []=w1.1 then (q:Int) else kindN w1.1 q:=fun _=>rfl
 refine TE.loopG (fun q:Nat=>q≤6) (fun q=>[(27,.o (.c (.int .i64 q)))]) [7] (fun q=>[.box 7 53 [.c (.int .i64 0),.c (.string ⟨#[]⟩),.c (.int .i64 (kindN w1.1 q)),.c (.slice none 0 0),.c (.string ⟨#[]⟩),.c (.int .i64 0),.c (.int .i64 0),.c (.int .i64 0)]]) (fun q=>6 - q) 0 (by rfl) (Nat.zero_le _) ?_ ?_
 ·exact ee
 intro q hq
 (repeat (with_reducible first|refine stp ?_|refine tD rfl ?_))
 ((refine rg ?_ ?_);try (with_reducible refine AllP.go ?_;first|exact og|((try simp only [OS]);repeat' (first|exact oj|refine And.intro ?_ ?_))))
 (repeat (with_reducible first|refine stp ?_|refine tD rfl ?_))
 (refine TE.cond_split (by rfl) ?_ ?_<;>intro h<;>(try simp only [NS] at h)<;>(try (exfalso;first | omega | exact h trivial | exact h | exact h rfl | contradiction)))
 ·rcases q with _ | _ | _ | _ | _ | _ | q
  all_goals try (exfalso;omega)
  all_goals (repeat (with_reducible first|refine stp ?_|refine tD rfl ?_))
  all_goals refine TE.region ?_
  all_goals (refine TE.step rfl rfl rfl (fun _ h=>nomatch h) (m_pure tysOk rfl ?_) ?_;rotate_left;rintro _ rfl;rotate_right;(with_reducible refine AllP.go ?_;first|exact og|((try simp only [OS]);repeat' (first|exact oj|refine And.intro ?_ ?_))))
  all_goals (refine TE.step rfl rfl rfl (fun _ h=>nomatch h) (m_aggIdx1 tysOk rfl (Tryz.underlying137) rfl rfl rfl rfl rfl (by rfl) ?_) ?_;rotate_left;rintro _ rfl;rotate_right)
  all_goals try (first | exact trivial | exact fun i _=>⟨_,rfl⟩ | ((try simp only [OS]);repeat' (first | omega | exact fun i _=>⟨_,rfl⟩ | refine And.intro ?_ ?_)))
  all_goals ((refine rn ?_ ?_);try (with_reducible refine AllP.go ?_;first|exact og|((try simp only [OS]);repeat' (first|exact oj|refine And.intro ?_ ?_))))
  all_goals (repeat (with_reducible first|refine stp ?_|refine tD rfl ?_))
  all_goals ((refine rg ?_ ?_);try (with_reducible refine AllP.go ?_;first|exact og|((try simp only [OS]);repeat' (first|exact oj|refine And.intro ?_ ?_))))
  all_goals (repeat (with_reducible first|refine stp ?_|refine tD rfl ?_))
  all_goals (refine TE.cond_split (by rfl) ?_ ?_<;>intro h<;>(try simp only [NS] at h)<;>(try (exfalso;first | omega | exact h trivial | exact h | exact h rfl | contradiction)))
  ·have hk:kindN w1.1 1=((0:Nat):Int):=(hkn 0).trans (if_pos (sB_inj.1 h))
   refine wa ?_
   refine TE.again' 1 (by decide) (by decide) ?_
   rw [hk]
   exact ee
  ·have hk:kindN w1.1 1=kindN w1.1 0:=(hkn 0).trans (if_neg (fun e=>h (sB_inj.2 e)))
   refine wa ?_
   refine TE.again' 1 (by decide) (by decide) ?_
   rw [hk]
   exact ee
  ·have hk:kindN w1.1 2=((1:Nat):Int):=(hkn 1).trans (if_pos (sB_inj.1 h))
   refine wa ?_
   refine TE.again' 2 (by decide) (by decide) ?_
   rw [hk]
   exact ee
  ·have hk:kindN w1.1 2=kindN w1.1 1:=(hkn 1).trans (if_neg (fun e=>h (sB_inj.2 e)))
   refine wa ?_
   refine TE.again' 2 (by decide) (by decide) ?_
   rw [hk]
   exact ee
  ·have hk:kindN w1.1 3=((2:Nat):Int):=(hkn 2).trans (if_pos (sB_inj.1 h))
   refine wa ?_
   refine TE.again' 3 (by decide) (by decide) ?_
   rw [hk]
   exact ee
  ·have hk:kindN w1.1 3=kindN w1.1 2:=(hkn 2).trans (if_neg (fun e=>h (sB_inj.2 e)))
   refine wa ?_
   refine TE.again' 3 (by decide) (by decide) ?_
   rw [hk]
   exact ee
  ·have hk:kindN w1.1 4=((3:Nat):Int):=(hkn 3).trans (if_pos (sB_inj.1 h))
   refine wa ?_
   refine TE.again' 4 (by decide) (by decide) ?_
   rw [hk]
   exact ee
  ·have hk:kindN w1.1 4=kindN w1.1 3:=(hkn 3).trans (if_neg (fun e=>h (sB_inj.2 e)))
   refine wa ?_
   refine TE.again' 4 (by decide) (by decide) ?_
   rw [hk]
   exact ee
  ·have hk:kindN w1.1 5=((4:Nat):Int):=(hkn 4).trans (if_pos (sB_inj.1 h))
   refine wa ?_
   refine TE.again' 5 (by decide) (by decide) ?_
   rw [hk]
   exact ee
  ·have hk:kindN w1.1 5=kindN w1.1 4:=(hkn 4).trans (if_neg (fun e=>h (sB_inj.2 e)))
   refine wa ?_
   refine TE.again' 5 (by decide) (by decide) ?_
   rw [hk]
   exact ee
  ·have hk:kindN w1.1 6=((5:Nat):Int):=(hkn 5).trans (if_pos (sB_inj.1 h))
   refine wa ?_
   refine TE.again' 6 (by decide) (by decide) ?_
   rw [hk]
   exact ee
  ·have hk:kindN w1.1 6=kindN w1.1 5:=(hkn 5).trans (if_neg (fun e=>h (sB_inj.2 e)))
   refine wa ?_
   refine TE.again' 6 (by decide) (by decide) ?_
   rw [hk]
   exact ee
 obtain rfl:q=6:=by omega
 rw [show kindN w1.1 6=kindOf w1.1 from rfl]
 refine wa ?_
 have hro:rdOk r0:=⟨h64,h2000⟩
 have hnl:∀ (q:Bool) (r:Rd),(nextR q r).2.1.length≤r.1.length:=nextR_le
 have hw1l:w1.2.1.length≤64:=by rw [hw1];have:=hnl false r0;omega
 refine cw (next_c true w1.2 (by omega)) ?_
 intro _ _
 obtain ⟨u1,ht1⟩:∃ u1,u1=nextR true w1.2:=⟨_,rfl⟩
 rw [← ht1]
 have hs1:u1.1.length≤2000:=by rw [ht1];exact nextR_str (by rw [hw1];exact (hro.next false).2)
 ((refine rn ?_ ?_);try (with_reducible refine AllP.go ?_;first|exact og|((try simp only [OS]);repeat' (first|exact oj|refine And.intro ?_ ?_))))
 refine cw (pParse_c m te pe u1.1 (by omega)) ?_
 intro _ _
 obtain ⟨p1,hp1⟩:∃ p1,p1=pparseE u1.1:=⟨_,rfl⟩
 rw [← hp1]
 ((refine rn ?_ ?_);try (with_reducible refine AllP.go ?_;first|exact og|((try simp only [OS]);repeat' (first|exact oj|refine And.intro ?_ ?_))))
 (repeat (with_reducible first|refine stp ?_|refine tD rfl ?_))
 obtain ⟨k,hk⟩:∃ k,k=kindOf w1.1:=⟨_,rfl⟩
 have hKK:readK r0=tailK k p1.1 (u1.2.1,(u1.2.2 || decide (k=0)) || decide (p1.2≠0)):=by
  rw [hk,hp1,ht1,hw1];rfl
 rw [hKK,← hk]
 have ht1l:u1.2.1.length≤64:=by rw [ht1];have:=hnl true w1.2;omega
 obtain ⟨b1,hb1⟩:∃ b1,b1=((u1.2.2 || decide (k=0)) || decide (p1.2≠0)):=⟨_,rfl⟩
 rw [← hb1]
 (refine TE.mid (ι:=Unit) (fun _=>True) (fun _=>rdS m te pe k p1.1 (u1.2.1,b1) 0 eS 0 0) ?_ fun _ _=>?_)
 ·obtain ⟨ts,tf,tb⟩:=u1
  dsimp only at hb1⊢
  cases tb
  ·(repeat' (first|(with_reducible refine AllP.go ?_;first|exact og|((try simp only [OS]);repeat' (first|exact oj|refine And.intro ?_ ?_)))|(refine rg ?_ ?_)|(with_reducible first|refine stp ?_|refine tD rfl ?_)|refine ct ?_|refine cf ?_|((first|refine gs ?_ ?_|refine gl ?_ ?_|refine gc ?_ ?_)<;>intro h<;>(try simp only [NS] at h)<;>(try exact xf)<;>(try refine rn ?_ ?_))))
   ·have e:b1=true:=by rw [hb1,decide_eq_true (by assumption)];rfl
    rw [e]
    exact aa
   ·have e:(!decide (p1.2=0))=b1:=by rw [hb1,decide_eq_false (show ¬ k=0 by assumption)];by_cases h:p1.2=0<;>simp [h]
    rw [← e]
    exact aa
  ·rw [hb1]
   refine wa ?_
   exact aa
 obtain ⟨r1,hr1'⟩:∃ r1:Rd,r1=(u1.2.1,b1):=⟨_,rfl⟩
 rw [← hr1']
 have ho1:rdOk r1:=by rw [hr1',ht1,hw1];exact ((hro.next false).next true)
 have hlk:=linked_c k
 refine TE.thenN ?_
 (refine TE.seqM (ι:=Unit) (fun _=>True) (fun _=>rdS m te pe k p1.1 (numL k r1).2 (numL k r1).1 eS 0 0) ?_ fun _ _=>?_)
 ·refine wa ?_
  refine cw (hlk) ?_
  intro _ _
  by_cases hl:linkK k=true
  ·have hnum:numL k r1=numR r1:=if_pos hl
   rw [hl,hnum]
   refine wb ?_
   refine cw (number_c m te pe r1 (by have:=ho1.1;omega) (fun f hf=>by have:=ho1.2 f hf;omega)) ?_
   intro _ _
   refine wb ?_
   exact aa
  ·have hnum:numL k r1=(0,r1):=if_neg hl
   rw [Bool.not_eq_true] at hl
   rw [hl,hnum]
   refine wb ?_
   exact aa
 have ho2:rdOk (numL k r1).2:=by
  unfold numL
  split
  ·exact ho1.num
  ·exact ho1
 obtain ⟨c,r2,hr2'⟩:∃ c r2,numL k r1=(c,r2):=⟨_,_,rfl⟩
 rw [hr2'] at ho2⊢
 dsimp only at ho2⊢
 have hT1:tailK k p1.1 r1=(⟨0,eS,k,(loopR (num4 k (num4 k (dataR k r2).2).2).2.1.length [] (num4 k (num4 k (dataR k r2).2).2).2).1,sB (dataR k r2).1,(num4 k (dataR k r2).2).1,(num4 k (num4 k (dataR k r2).2).2).1,c⟩,p1.1,!(loopR (num4 k (num4 k (dataR k r2).2).2).2.1.length [] (num4 k (num4 k (dataR k r2).2).2).2).2.2):=by
  unfold tailK
  rw [hr2']
 obtain ⟨d,r3,hr3⟩:∃ d r3,dataR k r2=(d,r3):=⟨_,_,rfl⟩
 obtain ⟨a,r4,hr4⟩:∃ a r4,num4 k r3=(a,r4):=⟨_,_,rfl⟩
 obtain ⟨b,r5,hr5⟩:∃ b r5,num4 k r4=(b,r5):=⟨_,_,rfl⟩
 rw [hr3] at hT1
 dsimp only at hT1
 rw [hr4] at hT1
 dsimp only at hT1
 rw [hr5] at hT1
 dsimp only at hT1
 rw [hT1]
 have ho3:rdOk r3:=by
  have e:r3=(dataR k r2).2:=by rw [hr3]
  rw [e]
  unfold dataR
  split
  ·exact ho2.next true
  ·exact ho2
 have ho4:rdOk r4:=by
  have e:r4=(num4 k r3).2:=by rw [hr4]
  rw [e]
  unfold num4
  split
  ·exact ho3.num
  ·exact ho3
 have ho5:rdOk r5:=by
  have e:r5=(num4 k r4).2:=by rw [hr5]
  rw [e]
  unfold num4
  split
  ·exact ho4.num
  ·exact ho4
 (refine TE.seqM (ι:=Unit) (fun _=>True) (fun _=>rdS m te pe k p1.1 r5 c (sB d) a b) ?_ fun _ _=>?_)
 ·(repeat' (first|(with_reducible refine AllP.go ?_;first|exact og|((try simp only [OS]);repeat' (first|exact oj|refine And.intro ?_ ?_)))|(refine rg ?_ ?_)|(with_reducible first|refine stp ?_|refine tD rfl ?_)|refine ct ?_|refine cf ?_|((first|refine gs ?_ ?_|refine gl ?_ ?_|refine gc ?_ ?_)<;>intro h<;>(try simp only [NS] at h)<;>(try exact xf)<;>(try refine rn ?_ ?_))))
  ·have e3:nextR true r2=(d,r3):=(show dataR k r2=nextR true r2 from if_pos (decide_eq_true (by omega))).symm.trans hr3
   have e4:(0,r3)=(a,r4):=(show num4 k r3=(0,r3) from if_neg (by omega)).symm.trans hr4
   have e5:(0,r4)=(b,r5):=(show num4 k r4=(0,r4) from if_neg (by omega)).symm.trans hr5
   obtain ⟨rfl,rfl⟩:=Prod.mk.inj e4
   obtain ⟨rfl,rfl⟩:=Prod.mk.inj e5
   have hc:=next_c true r2 (by have:=ho2.1;omega)
   rw [e3] at hc
   refine cw (hc) ?_
   intro _ _
   refine wb ?_
   exact aa
  ·have e3:nextR true r2=(d,r3):=(show dataR k r2=nextR true r2 from if_pos (decide_eq_true (by omega))).symm.trans hr3
   have e4:(0,r3)=(a,r4):=(show num4 k r3=(0,r3) from if_neg (by omega)).symm.trans hr4
   have e5:(0,r4)=(b,r5):=(show num4 k r4=(0,r4) from if_neg (by omega)).symm.trans hr5
   obtain ⟨rfl,rfl⟩:=Prod.mk.inj e4
   obtain ⟨rfl,rfl⟩:=Prod.mk.inj e5
   have hc:=next_c true r2 (by have:=ho2.1;omega)
   rw [e3] at hc
   refine cw (hc) ?_
   intro _ _
   refine wb ?_
   exact aa
  ·have e3:([],r2)=(d,r3):=(show dataR k r2=([],r2) from if_neg (fun h=>by have:k=2∨k=3:=of_decide_eq_true h;omega)).symm.trans hr3
   obtain ⟨rfl,rfl⟩:=Prod.mk.inj e3
   have e4:numR r2=(a,r4):=(show num4 k r2=numR r2 from if_pos (by omega)).symm.trans hr4
   have e5:numR r4=(b,r5):=(show num4 k r4=numR r4 from if_pos (by omega)).symm.trans hr5
   have hc:=number_c m te pe r2 (by have:=ho2.1;omega) (fun f hf=>by have:=ho2.2 f hf;omega)
   have hc2:=number_c m te pe r4 (by have:=ho4.1;omega) (fun f hf=>by have:=ho4.2 f hf;omega)
   rw [e4] at hc
   rw [e5] at hc2
   refine cw (hc) ?_
   intro _ _
   ((refine rn ?_ ?_);try (with_reducible refine AllP.go ?_;first|exact og|((try simp only [OS]);repeat' (first|exact oj|refine And.intro ?_ ?_))))
   refine cw (hc2) ?_
   intro _ _
   refine wb ?_
   exact aa
  ·have e3:([],r2)=(d,r3):=(show dataR k r2=([],r2) from if_neg (fun h=>by have:k=2∨k=3:=of_decide_eq_true h;omega)).symm.trans hr3
   obtain ⟨rfl,rfl⟩:=Prod.mk.inj e3
   have e4:(0,r2)=(a,r4):=(show num4 k r2=(0,r2) from if_neg (by omega)).symm.trans hr4
   have e5:(0,r4)=(b,r5):=(show num4 k r4=(0,r4) from if_neg (by omega)).symm.trans hr5
   obtain ⟨rfl,rfl⟩:=Prod.mk.inj e4
   obtain ⟨rfl,rfl⟩:=Prod.mk.inj e5
   exact aa
 obtain ⟨R,hR⟩:∃ R,R=loopR r5.1.length [] r5:=⟨_,rfl⟩
 rw [← hR]
 refine TE.nilBox 7 3 39 2 (by rfl) (by rfl) ?_
 (repeat (with_reducible first|refine stp ?_|refine tD rfl ?_))
 refine TE.loopG (fun q:Nat×List At.At×Rd=>loopR q.1 q.2.1 q.2.2=R∧(q.2.2.2=true∨q.2.2.1.length≤q.1)∧rdOk q.2.2∧q.2.1.length+q.1≤64) (fun q=>[]) [6,7,8] (fun q=>[.box 6 153 [.ro 2 q.2.2.1.length (fdC q.2.2.1).cell,.c (.bool q.2.2.2)],.box 7 53 [.c (.int .i64 0),.c (.string ⟨#[]⟩),.c (.int .i64 k),.own 8,.c (.string (sB d)),.c (.int .i64 a),.c (.int .i64 b),.c (.int .i64 c)],.own 8 39 2 (atC q.2.1)]) (fun q=>q.1) (r5.1.length,[],r5) (by rfl) ⟨hR.symm,.inr (Nat.le_refl _),ho5,by have:=ho5.1;simp only [List.length_nil];omega⟩ ?_ ?_
 ·(refine Ent.of rfl rfl (by rfl) ?_;(try (first|exact trivial|((with_reducible refine AllP.go ?_);dsimp only [AllP,appP];repeat' (first|refine And.intro ?_ ?_|exact zz)))))
  exact LeDC.nil rfl rfl
 rintro ⟨kk,out,fs,bad⟩ ⟨g1,g2,g3,g4⟩
 dsimp only at g1 g2 g3 g4
 obtain ⟨o1,o2⟩:=g3
 dsimp only at o1 o2
 cases bad
 ·have hx1:=next_c true (fs,false) (by dsimp only;omega)
  obtain ⟨v,rv,hv1⟩:∃ v rv,nextR true (fs,false)=(v,rv):=⟨_,_,rfl⟩
  have hov:rdOk rv:=by have:=(show rdOk (fs,false) from ⟨o1,o2⟩).next true;rw [hv1] at this;exact this
  have hx2:=next_c true rv (by have:=hov.1;omega)
  obtain ⟨v2,rv2,hv2⟩:∃ v2 rv2,nextR true rv=(v2,rv2):=⟨_,_,rfl⟩
  have hov2:rdOk rv2:=by have:=hov.next true;rw [hv2] at this;exact this
  rw [hv1] at hx1
  rw [hv2] at hx2
  (repeat' (first|(with_reducible refine AllP.go ?_;first|exact og|((try simp only [OS]);repeat' (first|exact oj|refine And.intro ?_ ?_)))|(refine rg ?_ ?_)|(with_reducible first|refine stp ?_|refine tD rfl ?_)|refine ct ?_|refine cf ?_|((first|refine gs ?_ ?_|refine gl ?_ ?_|refine gc ?_ ?_)<;>intro h<;>(try simp only [NS] at h)<;>(try exact xf)<;>(try refine rn ?_ ?_))))
  ·have hne:fs≠[]:=fun e=>by subst e;exact absurd h (by simp)
   obtain ⟨kk',rfl⟩:∃ kk',kk=kk' + 1:=⟨kk - 1,by have:=List.length_pos_iff.2 hne;have g2:=g2.resolve_left (by decide);omega⟩
   have hstp:loopR (kk' + 1) out (fs,false)=loopR kk' (out++[(sB v,sB v2)]) rv2:=by
    rw [loopR_step hne rfl,hv1]
    dsimp only
    rw [hv2]
   have hnx:rv2.2=true∨rv2.1.length≤kk':=by
    have:=loopR_next (r:=(fs,false)) hne rfl (g2.resolve_left (by decide))
    rw [hv1] at this
    dsimp only at this
    rw [hv2] at this
    exact this
   refine cw (hx1) ?_
   intro _ _
   refine wb ?_
   (refine TE.only [13,12,8,7,2] (by rfl) ?_)
   (refine TE.drawK (fun _=>false) (by rfl) (by rfl) (by rfl) ?_)
   (repeat' (first|(with_reducible refine AllP.go ?_;first|exact og|((try simp only [OS]);repeat' (first|exact oj|refine And.intro ?_ ?_)))|(with_reducible first|exact PanicOk.body|exact rd.panic|refine PanicOk.then' ?_|refine PanicOk.block ?_|refine PanicOk.jump ?_)|(refine TL.done (by rfl) ?_)|(refine TL.auto tysOk rfl ?_ (by rfl) ?_ ?_)|(refine sm ?_ ?_)|(refine sp ?_ ?_)|(refine TL.one (by rfl) ?_)|(refine TL.two (by rfl) ?_ ?_)|(refine TL.three (by rfl) ?_ ?_ ?_)|(refine TL.four (by rfl) ?_ ?_ ?_ ?_)))
   all_goals (refine StepL.callW (hx2) rfl rfl rfl rfl rfl (by rfl) (by (first|exact trivial|((with_reducible refine AllP.go ?_);dsimp only [AllP,appP];repeat' (first|refine And.intro ?_ ?_|exact zz|assumption)))) (by rfl) (by rfl) ?_;intro _ _;(repeat' (first|(with_reducible refine AllP.go ?_;first|exact og|((try simp only [OS]);repeat' (first|exact oj|refine And.intro ?_ ?_)))|(with_reducible first|exact PanicOk.body|exact rd.panic|refine PanicOk.then' ?_|refine PanicOk.block ?_|refine PanicOk.jump ?_)|(refine TL.done (by rfl) ?_)|(refine TL.auto tysOk rfl ?_ (by rfl) ?_ ?_)|(refine sm ?_ ?_)|(refine sp ?_ ?_)|(refine TL.one (by rfl) ?_)|(refine TL.two (by rfl) ?_ ?_)|(refine TL.three (by rfl) ?_ ?_ ?_)|(refine TL.four (by rfl) ?_ ?_ ?_ ?_))))
   all_goals refine wa ?_
   all_goals refine TE.again' (kk',out++[(sB v,sB v2)],rv2) ⟨hstp.symm.trans g1,hnx,hov2,by simp only [List.length_append,List.length_cons,List.length_nil];omega⟩ (by dsimp only;omega) ?_
   all_goals (refine Ent.of rfl rfl (by rfl) ?_;(try (first|exact trivial|((with_reducible refine AllP.go ?_);dsimp only [AllP,appP];repeat' (first|refine And.intro ?_ ?_|exact zz)))))
   all_goals exact listC_snoc _ rfl (nth2 rfl rfl)
  ·have hf:fs.length=0:=by omega
   have hst:loopR kk out (fs,false)=(out,(fs,false)):=loopR_stop (fun h=>by have:0<fs.length:=List.length_pos_iff.2 h.1;omega)
   rw [hst] at g1
   rw [← g1]
   (refine TE.freezeN 8 (by rfl) (by rfl) ?_)
   (refine TE.only [12,8,7,2] (by rfl) ?_)
   ((refine TE.drawK (fun _=>false) (by rfl) (by rfl) (by rfl) ?_);(repeat' (first|(with_reducible refine AllP.go ?_;first|exact og|((try simp only [OS]);repeat' (first|exact oj|refine And.intro ?_ ?_)))|(with_reducible first|exact PanicOk.body|exact rd.panic|refine PanicOk.then' ?_|refine PanicOk.block ?_|refine PanicOk.jump ?_)|(refine TL.done (by rfl) ?_)|(refine TL.auto tysOk rfl ?_ (by rfl) ?_ ?_)|(refine sm ?_ ?_)|(refine sp ?_ ?_)|(refine TL.one (by rfl) ?_)|(refine TL.two (by rfl) ?_ ?_)|(refine TL.three (by rfl) ?_ ?_ ?_)|(refine TL.four (by rfl) ?_ ?_ ?_ ?_))))
   all_goals refine wa ?_
   all_goals exact po
 ·have hst:loopR kk out (fs,true)=(out,(fs,true)):=loopR_bad rfl
  rw [hst] at g1
  rw [← g1]
  (repeat' (first|(with_reducible refine AllP.go ?_;first|exact og|((try simp only [OS]);repeat' (first|exact oj|refine And.intro ?_ ?_)))|(refine rg ?_ ?_)|(with_reducible first|refine stp ?_|refine tD rfl ?_)|refine ct ?_|refine cf ?_|((first|refine gs ?_ ?_|refine gl ?_ ?_|refine gc ?_ ?_)<;>intro h<;>(try simp only [NS] at h)<;>(try exact xf)<;>(try refine rn ?_ ?_))))
  all_goals (refine TE.freezeN 8 (by rfl) (by rfl) ?_)
  all_goals (refine TE.only [12,8,7,2] (by rfl) ?_)
  all_goals ((refine TE.drawK (fun _=>false) (by rfl) (by rfl) (by rfl) ?_);(repeat' (first|(with_reducible refine AllP.go ?_;first|exact og|((try simp only [OS]);repeat' (first|exact oj|refine And.intro ?_ ?_)))|(with_reducible first|exact PanicOk.body|exact rd.panic|refine PanicOk.then' ?_|refine PanicOk.block ?_|refine PanicOk.jump ?_)|(refine TL.done (by rfl) ?_)|(refine TL.auto tysOk rfl ?_ (by rfl) ?_ ?_)|(refine sm ?_ ?_)|(refine sp ?_ ?_)|(refine TL.one (by rfl) ?_)|(refine TL.two (by rfl) ?_ ?_)|(refine TL.three (by rfl) ?_ ?_ ?_)|(refine TL.four (by rfl) ?_ ?_ ?_ ?_))))
  all_goals refine wa ?_
  all_goals exact po
theorem pa_take (p:List ByteArray) {n:Nat} (h:n≤p.length):LeD 1 n (paC p).cell (p.take n).length (paC (p.take n)).cell:=
 ⟨by rw [List.length_take];omega,fun i j hi hj=>LeX.of_eq (by
  show bsR (p.getD i eS) j=bsR ((p.take n).getD i eS) j
  rw [getD_take hi])⟩
theorem errAt_lt:∀ {r pre:List Nd} {i j:Nat} {e:Int},errAt pre r i=some (j,e)→j<i+r.length
 | [],_,_,_,_,h=>by cases h
 | n :: r,pre,i,j,e,h=>by
  rw [errAt] at h
  simp only [List.length_cons]
  split at h
  ·injection h with h
   injection h with h1 h2
   omega
  ·have:=errAt_lt h
   omega
theorem loneAt_lt {l:List Nd}:∀ {r:List Nd} {i j:Nat},loneAt l r i=some j→j<i+r.length
 | [],_,_,h=>by cases h
 | n :: r,i,j,h=>by
  rw [loneAt] at h
  simp only [List.length_cons]
  split at h
  ·injection h with h
   omega
  ·have:=loneAt_lt h
   omega
theorem checkT_lt (l:List Nd) : -1≤(checkT l).1∧(checkT l).1≤l.length:=by
 unfold checkT
 split
 ·exact ⟨by decide,by dsimp only;omega⟩
 split
 ·exact ⟨by decide,by dsimp only;omega⟩
 split
 ·rename_i h
  have:=errAt_lt h
  exact ⟨by dsimp only;omega,by dsimp only;omega⟩
 split
 ·rename_i h
  have:=loneAt_lt h
  exact ⟨by dsimp only;omega,by dsimp only;omega⟩
 ·exact ⟨by decide,by dsimp only;omega⟩
def followsB (p last:List ByteArray):Bool:=decide (p≠[]∧p.length≤last.length+1∧p.take (p.length - 1)=last.take (p.length - 1))
theorem follows_c (p last:List ByteArray) (hp:p.length≤1000) (hl:last.length≤1000):Con Tryz.prog 79 [.o (.ro 1 p.length (paC p).cell),.o (.ro 1 last.length (paC last).cell)] [] 0 0 U (fun _=>.o (.sb (followsB p last))) G0:=by
 refine con_of Tryz.func79 rfl (by kernel_rfl) Tryz.ntmps79 rfl (by first | exact Nat.zero_le _ | decide) (fun _=>⟨rfl,rfl⟩) fun w S ν=>?_
 have he:=equalS_c (p.take (p.length - 1)) (last.take (p.length - 1)) (by rw [List.length_take];omega) (by rw [List.length_take];omega)
 have hfn:¬ (p.length≠0∧p.length≤last.length+1)→followsB p last=false:=fun h=>decide_eq_false fun k=>h ⟨fun e=>k.1 (List.length_eq_zero_iff.1 e),k.2.1⟩
 have hm1:((p.length:Int) - 1).toNat=p.length - 1:=by omega
 refine wa ?_
 (refine TE.drawK (fun _=>false) (by rfl) (by rfl) (by rfl) ?_)
 (repeat' (first|(with_reducible refine AllP.go ?_;first|exact og|((try simp only [OS]);repeat' (first|exact oj|refine And.intro ?_ ?_)))|(refine rg ?_ ?_)|(with_reducible first|refine stp ?_|refine tD rfl ?_)|(with_reducible first|exact PanicOk.body|exact rd.panic|refine PanicOk.then' ?_|refine PanicOk.block ?_|refine PanicOk.jump ?_)|(refine dc ?_)|(refine dn ?_)|(refine TL.done (by rfl) ?_)|(refine TL.auto tysOk rfl ?_ (by rfl) ?_ ?_)|((refine TL.one (by rfl) ?_);first|(refine sm ?_ ?_)|(refine sp ?_ ?_))|(refine sm ?_ ?_)|refine ct ?_|refine cf ?_|((first|refine gs ?_ ?_|refine gl ?_ ?_|refine gc ?_ ?_)<;>intro h<;>(try simp only [NS] at h)<;>(try exact xf)<;>(try refine rn ?_ ?_))))
 ·have hf:followsB p last=decide (p.take (p.length - 1)=last.take (p.length - 1)):=decide_eq_decide.2 ⟨fun k=>k.2.2,fun k=>⟨fun e=>by subst e;simp_all,by omega,k⟩⟩
  rw [hf]
  (refine TL.one (by rfl) ?_)
  refine StepL.callW (he) rfl rfl rfl rfl rfl (by rfl) ?_ (by rfl) (by rfl) ?_
  ·refine AllP.go ?_
   rw [hm1]
   exact ⟨rfl,pa_take _ (by omega),pa_take _ (by omega)⟩
  intro _ _
  refine wc ?_
  exact po
 ·rw [hfn (by omega)]
  exact po
 ·rw [hfn (by omega)]
  exact po
theorem tParse_c (m:Int) (te:TypeId) (pe:Value) (s:Bs) (hl:s.length≤900000):Con Tryz.prog 38 [.o (.c (.string (sB s)))] (glT m te pe) 5 5 U (fun _=>.t [.inl (.ro 8 (parseT s).1.length (ndC (parseT s).1).cell),.inl (.c (.int .i64 (parseT s).2.1)),.inl (.c (.int .i64 (parseT s).2.2))]) (fun _=>glT m te pe):=by
 refine con_of Tryz.func38 rfl (by kernel_rfl) Tryz.ntmps38 rfl (by first | exact Nat.zero_le _ | decide) (fun _=>⟨rfl,rfl⟩) fun w S ν=>?_
 have hln:=Lines_c m te pe s (by omega)
 have hll:=lines_len s
 have hls:=lines_size s
 refine wa ?_
 refine cw (hln) ?_
 intro _ _
 by_cases h1:(linesI s).2≠0
 ·rw [show parseT s=([],0,(linesI s).2) from if_pos h1]
  refine wb ?_
  exact po
 have hE:parseT s=match rowsP 0 [] [] (linesI s).1 with
  | .inr k=>([],(k:Int),6)
  | .inl t=>if (checkT t).2≠0 then ([],(checkT t).1+1,(checkT t).2) else (t,0,0):=if_neg h1
 have h1:=Decidable.not_not.1 h1
 obtain ⟨L,hL⟩:∃ L,L=(linesI s).1:=⟨_,rfl⟩
 rw [← hL] at hE hll hls⊢
 refine wb ?_
 refine TE.nilOwn 2 53 8 (by rfl) ?_
 (refine TE.only [24,23,22,6,2] (by rfl) ?_)
 have hsp:∀ x:Bs,readS x=none∧(readK (rd0 x)).2.2=false∨∃ n p,readS x=some (n,p)∧readK (rd0 x)=(n,p,true):=fun x=>by
  have h:=readK_spec (splitI x).1 (!decide ((splitI x).2=0)) (fun e=>split_err (by simpa using e))
  cases hr:readS x with
  | none=>
   rw [show readF (splitI x).1=none from hr] at h
   exact .inl ⟨rfl,h.1⟩
  | some y=>
   rw [show readF (splitI x).1=some y from hr] at h
   exact .inr ⟨y.1,y.2,rfl,h.2 y rfl⟩
 refine TE.loopG (fun q:Nat×List ByteArray×List Nd=>RowsAt L q.1 q.2.1 q.2.2∧pcheckE q.2.1=0) (fun q=>[(24,.o (.c (.int .i64 q.1))),(6,.o (.ro 1 q.2.1.length (paC q.2.1).cell)),(2,.o (.own 5))]) [5] (fun q=>[.own 5 53 8 (ndC q.2.2)]) (fun q=>L.length - q.1) (0,[],[]) (by rfl) ⟨rows_start L,by decide⟩ ?_ ?_
 ·(refine Ent.of rfl rfl (by rfl) ?_;(try (first|exact trivial|((with_reducible refine AllP.go ?_);dsimp only [AllP,appP];repeat' (first|refine And.intro ?_ ?_|exact zz)))))
  exact LeDC.nil rfl rfl
 rintro ⟨i,last,t⟩ ⟨g,gp⟩
 have g1:i≤L.length:=g.le
 have g2:t.length=i:=g.len
 have g0:i=0→last=[]:=g.start
 dsimp only at gp
 by_cases hlt:i<L.length
 ·have hsz:=hls _ (getD_mem (l:=L) (d:=[]) hlt)
  have hrd:=read_c m te pe (L.getD i []) (by omega)
  have hgp:=pcheck_iff.1 gp
  refine wa ?_
  refine cw (hrd) ?_
  intro _ _
  rcases hsp (L.getD i []) with ⟨s1,s2⟩ | ⟨n,p,s1,s2⟩
  ·have hR:=rows_bad g hlt (rowP_none s1)
   rw [hR] at hE
   dsimp only at hE
   rw [hE,s2]
   refine wb ?_
   exact po
  ·have hrs:=rowP_some (i:=i) (last:=last) s1
   have hfi:=read_fine s1
   have hfp:=pcheck_iff.1 hfi.2.2.2.2
   rw [s2]
   rcases Nat.eq_zero_or_pos i with h0 | h0
   ·rw [if_pos h0] at hrs
    by_cases hpe:p=[]
    ·have hpl:p.length=0:=by rw [hpe];rfl
     rw [if_pos hpe] at hrs
     have hmo:=rows_more g hlt hrs
     refine wb ?_
     refine TE.again' (i+1,p,t++[n]) ⟨hmo,hfi.2.2.2.2⟩ (by dsimp only;omega) ?_
     (refine Ent.of rfl rfl (by rfl) ?_;(try (first|exact trivial|((with_reducible refine AllP.go ?_);dsimp only [AllP,appP];repeat' (first|refine And.intro ?_ ?_|exact zz)))))
     exact listC_snoc _ rfl (nd_row _)
    ·have hpl:0<p.length:=List.length_pos_iff.2 hpe
     rw [if_neg hpe] at hrs
     have hR:=rows_bad g hlt hrs
     rw [hR] at hE
     dsimp only at hE
     rw [hE]
     refine wb ?_
     exact po
   ·rw [if_neg (by omega)] at hrs
    have hfo:=follows_c p last (by omega) (by omega)
    by_cases hfb:followsB p last=true
    ·have hk:p≠[]∧p.length≤last.length+1∧p.take (p.length - 1)=last.take (p.length - 1):=of_decide_eq_true hfb
     have hpl:0<p.length:=List.length_pos_iff.2 hk.1
     rw [if_neg (fun e=>e.elim hk.1 (fun e=>e.elim (fun e=>by omega) (fun e=>e hk.2.2)))] at hrs
     have hmo:=rows_more g hlt hrs
     rw [hfb] at hfo
     refine wb ?_
     refine cw (hfo) ?_
     intro _ _
     refine wb ?_
     have hm1:((p.length:Int) - 1).toNat=p.length - 1:=by omega
     (refine TE.only [24,23,22,14,13,12,11,10,9,8,7,6,2] (by rfl) ?_)
     refine wg ?_
     all_goals refine wa ?_
     all_goals refine TE.again' (i+1,p,t++[{ n with depth:=(p.length:Int),name:=p.getD (p.length - 1) eS }]) ⟨hmo,hfi.2.2.2.2⟩ (by dsimp only;omega) ?_
     all_goals (refine Ent.of rfl rfl (by rfl) ?_;(try (first|exact trivial|((with_reducible refine AllP.go ?_);dsimp only [AllP,appP];repeat' (first|refine And.intro ?_ ?_|exact zz)))))
     all_goals exact listC_snoc _ rfl (by rw [hm1];exact nd_row { n with depth:=(p.length:Int),name:=p.getD (p.length - 1) eS })
    ·have hk:¬ (p≠[]∧p.length≤last.length+1∧p.take (p.length - 1)=last.take (p.length - 1)):=fun e=>hfb (decide_eq_true e)
     rw [if_pos (Decidable.byContradiction fun e=>hk ⟨fun h=>e (.inl h),Nat.le_of_not_lt fun h=>e (.inr (.inl h)),Decidable.byContradiction fun h=>e (.inr (.inr h))⟩)] at hrs
     have hR:=rows_bad g hlt hrs
     rw [hR] at hE
     dsimp only at hE
     rw [Bool.not_eq_true] at hfb
     rw [hfb] at hfo
     rw [hE]
     refine wb ?_
     refine cw (hfo) ?_
     intro _ _
     refine wb ?_
     exact po
 ·obtain rfl:i=L.length:=by omega
  have hR:=rows_end g (Nat.le_refl _)
  rw [hR] at hE
  dsimp only at hE
  obtain ⟨hfa,hfl⟩:=rows_fine (fun n h=>by cases h) hR
  have hok:∀ x∈t,okN x:=fun x hx=>by have:=hfa x hx;exact ⟨by have:=this.1;omega,by have:=this.2.1;omega,by have:=this.2.2;omega⟩
  have hcl:=checkT_lt t
  refine wa ?_
  (refine TE.freezeN 5 (by rfl) (by rfl) ?_)
  refine cw (check_c t (by omega) hok) ?_
  intro _ _
  by_cases h2:(checkT t).2≠0
  ·rw [if_pos h2] at hE
   rw [hE]
   refine wb ?_
   exact po
  ·rw [if_neg h2] at hE
   rw [hE]
   refine wb ?_
   exact po
theorem rtParse_c (s:Bs) (hl:s.length≤900000):Con Tryz.prog 42 [.o (.c (.string (sB s)))] [] 0 0 U (fun _=>.t [.inl (.ro 8 (parseT s).1.length (ndC (parseT s).1).cell),.inl (.c (.int .i64 (parseT s).2.1)),.inl (.c (.int .i64 (parseT s).2.2))]) G0:=by
 refine con_of Tryz.func42 rfl (by kernel_rfl) Tryz.ntmps42 rfl (by first | exact Nat.zero_le _ | decide) (fun _=>⟨rfl,rfl⟩) fun w S ν=>?_
 have hln:=rLines_c s (by omega)
 have hll:=lines_len s
 have hls:=lines_size s
 refine wa ?_
 refine cw (hln) ?_
 intro _ _
 by_cases h1:(linesI s).2≠0
 ·rw [show parseT s=([],0,(linesI s).2) from if_pos h1]
  refine wb ?_
  exact po
 have hE:parseT s=match rowsP 0 [] [] (linesI s).1 with
  | .inr k=>([],(k:Int),6)
  | .inl t=>if (checkT t).2≠0 then ([],(checkT t).1+1,(checkT t).2) else (t,0,0):=if_neg h1
 have h1:=Decidable.not_not.1 h1
 obtain ⟨L,hL⟩:∃ L,L=(linesI s).1:=⟨_,rfl⟩
 rw [← hL] at hE hll hls⊢
 refine wb ?_
 refine TE.nilOwn 7 53 8 (by rfl) ?_
 (refine TE.only [9,8,7,5] (by rfl) ?_)
 refine TE.loopG (fun q:Nat×List ByteArray×List Nd=>RowsAt L q.1 q.2.1 q.2.2∧pcheckE q.2.1=0) (fun q=>[(9,.o (.c (.int .i64 q.1))),(8,.o (.ro 1 q.2.1.length (paC q.2.1).cell)),(7,.o (.own 0))]) [0] (fun q=>[.own 0 53 8 (ndC q.2.2)]) (fun q=>L.length - q.1) (0,[],[]) (by rfl) ⟨rows_start L,by decide⟩ ?_ ?_
 ·(refine Ent.of rfl rfl (by rfl) ?_;(try (first|exact trivial|((with_reducible refine AllP.go ?_);dsimp only [AllP,appP];repeat' (first|refine And.intro ?_ ?_|exact zz)))))
  exact LeDC.nil rfl rfl
 rintro ⟨i,last,t⟩ ⟨g,gp⟩
 have g1:i≤L.length:=g.le
 have g2:t.length=i:=g.len
 have g0:i=0→last=[]:=g.start
 dsimp only at gp
 by_cases hlt:i<L.length
 ·have hsz:=hls _ (getD_mem (l:=L) (d:=[]) hlt)
  have hrd:=rread_c (L.getD i []) (by omega)
  have hgp:=pcheck_iff.1 gp
  refine wa ?_
  refine cw (hrd) ?_
  rintro ⟨n,p,b⟩ ⟨k1,k2⟩
  dsimp only at k1 k2
  cases s1:readS (L.getD i []) with
  | none=>
   rw [s1] at k1
   have k1:b=false:=k1
   subst k1
   have hR:=rows_bad g hlt (rowP_none s1)
   rw [hR] at hE
   dsimp only at hE
   rw [hE]
   refine wb ?_
   exact po
  | some y=>
   have k2:=k2 y s1
   obtain ⟨n',p'⟩:=y
   injection k2 with e1 e2
   injection e2 with e2 e3
   subst e1 e2 e3
   have hrs:=rowP_some (i:=i) (last:=last) s1
   have hfi:=read_fine s1
   have hfp:=pcheck_iff.1 hfi.2.2.2.2
   dsimp only
   rcases Nat.eq_zero_or_pos i with h0 | h0
   ·rw [if_pos h0] at hrs
    by_cases hpe:p=[]
    ·have hpl:p.length=0:=by rw [hpe];rfl
     rw [if_pos hpe] at hrs
     have hmo:=rows_more g hlt hrs
     refine wb ?_
     (refine TE.only [11,10,9,8,7,5] (by rfl) ?_)
     refine we ?_
     refine wa ?_
     refine TE.again' (i+1,p,t++[n]) ⟨hmo,hfi.2.2.2.2⟩ (by dsimp only;omega) ?_
     (refine Ent.of rfl rfl (by rfl) ?_;(try (first|exact trivial|((with_reducible refine AllP.go ?_);dsimp only [AllP,appP];repeat' (first|refine And.intro ?_ ?_|exact zz)))))
     exact listC_snoc _ rfl (nd_row _)
    ·have hpl:0<p.length:=List.length_pos_iff.2 hpe
     rw [if_neg hpe] at hrs
     have hR:=rows_bad g hlt hrs
     rw [hR] at hE
     dsimp only at hE
     rw [hE]
     refine wb ?_
     exact po
   ·rw [if_neg (by omega)] at hrs
    by_cases hk:p=[]∨last.length+1<p.length
    ·rw [if_pos (hk.elim .inl fun h=>.inr (.inl h))] at hrs
     have hR:=rows_bad g hlt hrs
     rw [hR] at hE
     dsimp only at hE
     rw [hE]
     have hk2:p.length=0∨last.length+1<p.length:=hk.elim (fun h=>.inl (by rw [h];rfl)) .inr
     ((refine rn ?_ ?_);(repeat' (first|(with_reducible refine AllP.go ?_;first|exact og|((try simp only [OS]);repeat' (first|exact oj|refine And.intro ?_ ?_)))|(refine rg ?_ ?_)|(with_reducible first|refine stp ?_|refine tD rfl ?_)|refine ct ?_|refine cf ?_|((first|refine gs ?_ ?_|refine gl ?_ ?_|refine gc ?_ ?_)<;>intro h<;>(try simp only [NS] at h)<;>(try exact xf)<;>(try refine rn ?_ ?_)))))
     all_goals exact po
    ·have hpl:0<p.length:=List.length_pos_iff.2 fun h=>hk (.inl h)
     have hpl2:p.length≤last.length+1:=Nat.le_of_not_lt fun h=>hk (.inr h)
     have hsm:=rsame_c (p.take (p.length - 1)) (last.take (p.length - 1)) (by rw [List.length_take];omega) (by rw [List.length_take];omega)
     have hm1:((p.length:Int) - 1).toNat=p.length - 1:=by omega
     refine wb ?_
     (refine TE.only [11,10,9,8,7,5] (by rfl) ?_)
     refine we ?_
     (refine TL.one (by rfl) ?_)
     refine StepL.callW (hsm) rfl rfl rfl rfl rfl (by rfl) ?_ (by rfl) (by rfl) ?_
     ·refine AllP.go ?_
      rw [hm1]
      exact ⟨rfl,pa_take _ (by omega),pa_take _ (by omega)⟩
     intro _ _
     by_cases hk3:p.take (p.length - 1)=last.take (p.length - 1)
     ·rw [decide_eq_true hk3]
      rw [if_neg (fun e=>e.elim (fun h=>hk (.inl h)) fun e=>e.elim (fun h=>hk (.inr h)) fun h=>h hk3)] at hrs
      have hmo:=rows_more g hlt hrs
      refine wf ?_
      refine wa ?_
      (refine TE.only [11,10,9,8,7,5] (by rfl) ?_)
      refine wg ?_
      all_goals refine wa ?_
      all_goals refine TE.again' (i+1,p,t++[{ n with depth:=(p.length:Int),name:=p.getD (p.length - 1) eS }]) ⟨hmo,hfi.2.2.2.2⟩ (by dsimp only;omega) ?_
      all_goals (refine Ent.of rfl rfl (by rfl) ?_;(try (first|exact trivial|((with_reducible refine AllP.go ?_);dsimp only [AllP,appP];repeat' (first|refine And.intro ?_ ?_|exact zz)))))
      all_goals exact listC_snoc _ rfl (by rw [hm1];exact nd_row { n with depth:=(p.length:Int),name:=p.getD (p.length - 1) eS })
     ·rw [decide_eq_false hk3]
      rw [if_pos (.inr (.inr hk3))] at hrs
      have hR:=rows_bad g hlt hrs
      rw [hR] at hE
      dsimp only at hE
      rw [hE]
      refine wf ?_
      refine wa ?_
      exact po
 ·obtain rfl:i=L.length:=by omega
  have hR:=rows_end g (Nat.le_refl _)
  rw [hR] at hE
  dsimp only at hE
  obtain ⟨hfa,hfl⟩:=rows_fine (fun n h=>by cases h) hR
  have hok:∀ x∈t,okR x:=fun x hx=>by have:=hfa x hx;exact ⟨by have:=this.1;omega,by have:=this.2.1;omega,by have:=this.2.2;omega⟩
  have hcl:=checkT_lt t
  refine wa ?_
  (refine TE.freezeN 0 (by rfl) (by rfl) ?_)
  refine cw (rcheck_c t (by omega) hok) ?_
  intro _ _
  by_cases h2:(checkT t).2≠0
  ·rw [if_pos h2] at hE
   rw [hE]
   refine wb ?_
   exact po
  ·rw [if_neg h2] at hE
   rw [hE]
   refine wb ?_
   exact po
end Go.Proofs.YtalmoocpebhoiaaGreatDoor.Am
namespace Go.Proofs.YtalmoocpebhoiaaGreatDoor.Am
open Go.RowKit Lw
open Br
abbrev twoC (a b:Int):Ct:=litC [[.c (.int .i64 a)],[.c (.int .i64 b)]]
theorem or2_c (a b:Int):Con Tryz.prog 55 [.o (.own 0)] [.own 0 3 1 (twoC a b)] 1 1 U (fun _=>.o (.c (.int .i64 (if a≠0 then a else b)))) (fun _=>[.own 0 3 1 (twoC a b)]):=by
 refine con_of Tryz.func55 rfl (by kernel_rfl) Tryz.ntmps55 rfl (by first | exact Nat.zero_le _ | decide) (fun _=>⟨rfl,rfl⟩) fun w S ν=>?_
 have hn:(twoC a b).n=2:=rfl
 refine wa ?_
 refine TE.loopG (fun q:Nat=>q≤2∧(0<q→a=0)∧(1<q→b=0)) (fun q=>[(8,.o (.c (.int .i64 q)))]) [] (fun _=>[]) (fun q=>2 - q) 0 (by rfl) ⟨by omega,fun h=>absurd h (by omega),fun h=>absurd h (by omega)⟩ ?_ ?_
 ·exact ee
 rintro q ⟨hq,g1,g2⟩
 rcases (show q=0∨q=1∨q=2 by omega) with e | e | e
 ·subst e
  by_cases ha:a=0
  ·refine wa ?_
   refine TE.again' 1 ⟨by omega,fun _=>ha,fun h=>absurd h (by omega)⟩ (by omega) ?_
   exact ee
  ·rw [if_pos ha]
   refine wa ?_
   exact po
 ·subst e
  have ha:=g1 (by omega)
  rw [if_neg (by rw [ha];simp)]
  by_cases hb:b=0
  ·refine wa ?_
   refine TE.again' 2 ⟨by omega,fun _=>ha,fun _=>hb⟩ (by omega) ?_
   exact ee
  ·refine wa ?_
   exact po
 ·subst e
  have ha:=g1 (by omega)
  have hb:=g2 (by omega)
  rw [if_neg (by rw [ha];simp),hb]
  refine wa ?_
  exact po
def avs (l:List Bn) (q:Nat):List Int:=(List.range q).map (aboveI (nds l))
theorem avs_len (l:List Bn) (q:Nat):(avs l q).length=q:=by simp [avs]
theorem avs_succ (l:List Bn) (q:Nat):avs l (q+1)=avs l q++[aboveI (nds l) q]:=by simp [avs,List.range_succ]
theorem avs_get {l:List Bn} {q k:Nat} (h:k<q):(avs l q).getD k 0=aboveI (nds l) k:=by
 unfold avs
 rw [List.getD_eq_getElem?_getD,List.getElem?_map,List.getElem?_range h]
 rfl
theorem av_get {l:List Bn} {q k:Nat} (h:k<q):getM (ents cnDs 0 (avs l q)) (k:Int)=some (cnDs (aboveI (nds l) k)):=by
 rw [get_ents 0 _ _ _ (by omega) (by rw [avs_len];omega),Int.sub_zero,Int.toNat_natCast,avs_get h]
abbrev avB (l:List Bn):List Chunk:=[.box 0 80 [.own 1],.obj 1 (.mp false (ents cnDs 0 (avs l l.length)))]
theorem av_rng (l:List Bn) {k:Nat} (h:k<l.length) : -1≤aboveI (nds l) k∧aboveI (nds l) k≤l.length:=by
 have h1:=above_ge (d:=((nds l).getD k n0).depth) ((nds l).take k).reverse
 have h2:=above_lt (d:=((nds l).getD k n0).depth) ((nds l).take k).reverse
 rw [List.length_reverse,List.length_take] at h2
 have h3:(nds l).length=l.length:=List.length_map ..
 unfold aboveI
 omega
theorem dord_c (l:List Bn) (x y:Nat) (hx:x<l.length) (hy:y<l.length) (hl:l.length≤1000000):Con Tryz.prog 54 [.o (.c (.int .i64 x)),.o (.c (.int .i64 y)),.o (.ptr 0 0)] (avB l) 2 2 U (fun _=>.o (.c (.int .i64 (ordI (aboveI (nds l)) x y)))) (fun _=>avB l):=by
 refine con_of Tryz.func54 rfl (by kernel_rfl) Tryz.ntmps54 rfl (by first | exact Nat.zero_le _ | decide) (fun _=>⟨rfl,rfl⟩) fun w S ν=>?_
 have r1:=av_rng l hx
 have r2:=av_rng l hy
 have g1:=av_get (l:=l) hx
 have g2:=av_get (l:=l) hy
 refine wa ?_
 (refine TE.step rfl rfl rfl (fun _ h=>nomatch h) (m_mpGet (mpI false) rfl (Tryz.underlying80) (Tryz.underlying3) rfl rfl rfl (g1) rfl) ?_;rintro _ rfl)
 refine wb ?_
 (refine TE.step rfl rfl rfl (fun _ h=>nomatch h) (m_mpGet (mpI false) rfl (Tryz.underlying80) (Tryz.underlying3) rfl rfl rfl (g2) rfl) ?_;rintro _ rfl)
 refine wb ?_
 refine cw (or2_c (aboveI (nds l) x - aboveI (nds l) y) ((x:Int) - y)) ?_
 intro _ _
 refine wb ?_
 exact po
theorem min_c (l:List Bn) (ks:List Nat) (h0:0<ks.length) (hk:∀ k∈ks,k<l.length) (hl:l.length≤1000000) (hkl:ks.length≤1000000):Con Tryz.prog 53 [.o (.ro 1 ks.length (skC ks).cell),.o (.clo 54 [(0,0)])] (avB l) 2 2 U (fun _=>.o (.c (.int .i64 (minN (aboveI (nds l)) ks)))) (fun _=>avB l):=by
 refine con_of Tryz.func53 rfl (by kernel_rfl) Tryz.ntmps53 rfl (by first | exact Nat.zero_le _ | decide) (fun _=>⟨rfl,rfl⟩) fun w S ν=>?_
 obtain ⟨m,r,rfl⟩:=List.exists_cons_of_ne_nil (List.length_pos_iff.1 h0)
 have hrl:(m :: r).length=r.length+1:=rfl
 refine wa ?_
 refine TE.loopG (fun p:Nat=>p≤r.length) (fun p=>[(6,.o (.c (.int .i64 (p+1:Nat)))),(5,.o (.c (.int .i64 (minL (aboveI (nds l)) m (r.take p):Nat))))]) [] (fun _=>[]) (fun p=>r.length - p) 0 (by rfl) (Nat.zero_le _) ?_ ?_
 ·exact ee
 intro p hp
 have hmem:minL (aboveI (nds l)) m (r.take p)<l.length:=by
  rcases (minL_spec (aboveI (nds l)) (r.take p) m).1 with e | e
  ·rw [e];exact hk m (List.mem_cons_self ..)
  ·exact hk _ (List.mem_cons_of_mem _ (List.mem_of_mem_take e))
 by_cases hlt:p<r.length
 ·have hx:(m :: r).getD (((p+1:Nat):Int)).toNat 0=r.getD p 0:=by rw [Int.toNat_natCast];rfl
  have hxl:r.getD p 0<l.length:=hk _ (List.mem_cons_of_mem _ (getD_mem hlt))
  have hsn:minL (aboveI (nds l)) m (r.take (p+1))=if ordI (aboveI (nds l)) (r.getD p 0) (minL (aboveI (nds l)) m (r.take p))<0 then r.getD p 0 else minL (aboveI (nds l)) m (r.take p):=by
   rw [List.take_add_one,List.getD_eq_getElem?_getD,List.getElem?_eq_getElem hlt]
   exact minL_snoc _ _ _ _
  have hd:=dord_c l (r.getD p 0) (minL (aboveI (nds l)) m (r.take p)) hxl hmem hl
  refine wa ?_
  rw [hx]
  refine cw (hd) ?_
  intro _ _
  by_cases ho:ordI (aboveI (nds l)) (r.getD p 0) (minL (aboveI (nds l)) m (r.take p))<0
  ·rw [if_pos ho] at hsn
   refine wb ?_
   refine TE.again' (p+1) (by omega) (by omega) ?_
   rw [hsn]
   exact ee
  ·rw [if_neg ho] at hsn
   refine wb ?_
   refine TE.again' (p+1) (by omega) (by omega) ?_
   rw [hsn]
   exact ee
 ·obtain rfl:p=r.length:=by omega
  refine wa ?_
  (refine TE.ret' io rfl tysOk (()) ?_ rfl (by rfl) ?_;all_goals (try (first|exact trivial|((with_reducible refine AllP.go ?_);dsimp only [AllP,appP];repeat' (first|refine And.intro ?_ ?_|exact zz)))))
  rw [List.take_length]
  rfl
def enR (x:En) (j:Nat):DC:=match j with
 | 0=>.c (.string x.name)
 | 1=>.c (.int .i64 x.node.depth)
 | 2=>.c (.string x.node.name)
 | 3=>.c (.int .i64 x.node.kind)
 | 4=>.sl 2 x.node.attrs.length (atC x.node.attrs).cell
 | 5=>.c (.string x.node.data)
 | 6=>.c (.int .i64 x.node.major)
 | 7=>.c (.int .i64 x.node.minor)
 | 8=>.c (.int .i64 x.node.cls)
 | 9=>.c (.bool x.white)
 | 10=>.c (.bool x.first)
 | _=>.c (.int .i64 x.names)
abbrev enC (l:List En):Ct:=listC enR e0 l
abbrev diA (d:Di):List A1:=[.ro 2 d.attrs.length (atC d.attrs).cell,.c (.bool d.opq),.ro 1 d.red.length (paC d.red).cell,.ro 12 d.ents.length (enC d.ents).cell]
theorem ent_row {x:En} {r:List DC} (h0:LeX (nthD r 0) (enR x 0)) (h1:LeX (nthD r 1) (enR x 1)) (h2:LeX (nthD r 2) (enR x 2)) (h3:LeX (nthD r 3) (enR x 3)) (h4:LeX (nthD r 4) (enR x 4)) (h5:LeX (nthD r 5) (enR x 5)) (h6:LeX (nthD r 6) (enR x 6)) (h7:LeX (nthD r 7) (enR x 7)) (h8:LeX (nthD r 8) (enR x 8)) (h9:LeX (nthD r 9) (enR x 9)) (h10:LeX (nthD r 10) (enR x 10)) (h11:LeX (nthD r 11) (enR x 11)):∀ j,j<12→LeX (nthD r j) (enR x j)
 | 0,_=>h0
 | 1,_=>h1
 | 2,_=>h2
 | 3,_=>h3
 | 4,_=>h4
 | 5,_=>h5
 | 6,_=>h6
 | 7,_=>h7
 | 8,_=>h8
 | 9,_=>h9
 | 10,_=>h10
 | 11,_=>h11
 | j+12,h=>absurd h (by omega)
theorem Dir_c (l:List Bn) (n:Int) (hl:l.length≤1000000) (hx:∀ x∈l,okB x):Con Tryz.prog 18 [.o (.ro 10 l.length (bnC l).cell),.o (.c (.int .i64 n))] [] 0 0 U (fun _=>.t [.inr (diA (dirE l n).1),.inl (.c (.int .i64 (dirE l n).2))]) G0:=by
 refine con_of Tryz.func18 rfl (by kernel_rfl) Tryz.ntmps18 rfl (by first | exact Nat.zero_le _ | decide) (fun _=>⟨rfl,rfl⟩) fun w S ν=>?_
 have hti:(nds l).length=l.length:=List.length_map ..
 have hkd:=Kids_c l n hl hx
 refine wa ?_
 refine cw (hkd) ?_
 intro _ _
 by_cases h1:(kidsE l n).2≠0
 ·rw [show dirE l n=(di0,(kidsE l n).2) from if_pos h1]
  refine wb ?_
  exact po
 rw [show dirE l n=(dirI l n.toNat,0) from if_neg h1]
 have h1:=Decidable.not_not.1 h1
 have hkn:knownE l n=0:=Decidable.byContradiction fun k=>by
  unfold kidsE at h1
  rw [if_pos k] at h1
  exact k h1
 have hT:Tok (nds l):=bok_tok (known_bok hkn)
 obtain ⟨k,rfl,hk⟩:=known_at hkn
 have hkE:kidsE l (k:Int)=(kidsL l k,0):=by
  unfold kidsE at h1⊢
  rw [if_neg (fun h=>h hkn)] at h1⊢
  split at h1
  ·exact absurd h1 (by decide)
  ·rename_i c;rw [if_neg c]
 rw [Int.toNat_natCast,hkE]
 obtain ⟨x1,x2,x3⟩:=hx _ (getD_mem (d:=b0) hk)
 have hcs:=cloneS_c (l.getD k b0).red x2
 have hca:=Clone_c (l.getD k b0).nd.attrs.length (atC (l.getD k b0).nd.attrs).cell x1.1
 refine wb ?_
 (refine TE.only [6,4,1,0] (by rfl) ?_)
 (refine TE.mid (ι:=Unit) (fun _=>True) (fun _=>⟨[(8,.o (.ptr 1 0)),(6,.o (.ro 1 (kidsL l k).length (skC (kidsL l k)).cell)),(4,.o (.ptr 0 0)),(0,.o (.ro 10 l.length (bnC l).cell)),(1,.o (.c (.int .i64 k)))],[.box 1 48 [.ro 2 (l.getD k b0).nd.attrs.length (atC (l.getD k b0).nd.attrs).cell,.c (.bool (l.getD k b0).opq),.ro 1 (l.getD k b0).red.length (paC (l.getD k b0).red).cell,.c (.slice none 0 0)],.box 0 48 [.c (.slice none 0 0),.c (.bool false),.c (.slice none 0 0),.c (.slice none 0 0)]],2⟩) ?_ fun _ _=>?_)
 ·(refine TE.drawK (fun _=>false) (by rfl) (by rfl) (by rfl) ?_)
  (repeat' (first|(with_reducible refine AllP.go ?_;first|exact og|((try simp only [OS]);repeat' (first|exact oj|refine And.intro ?_ ?_)))|(with_reducible first|exact PanicOk.body|exact rd.panic|refine PanicOk.then' ?_|refine PanicOk.block ?_|refine PanicOk.jump ?_)|(refine TL.done (by rfl) ?_)|(refine TL.auto tysOk rfl ?_ (by rfl) ?_ ?_)|(refine sm ?_ ?_)|(refine sp ?_ ?_)|(refine TL.one (by rfl) ?_)|(refine TL.two (by rfl) ?_ ?_)|(refine TL.three (by rfl) ?_ ?_ ?_)|(refine TL.four (by rfl) ?_ ?_ ?_ ?_)))
  all_goals (first|refine StepL.callW (hca) rfl rfl rfl rfl rfl (by rfl) (by (first|exact trivial|((with_reducible refine AllP.go ?_);dsimp only [AllP,appP];repeat' (first|refine And.intro ?_ ?_|exact zz|assumption)))) (by rfl) (by rfl) ?_|refine StepL.callW (hcs) rfl rfl rfl rfl rfl (by rfl) (by (first|exact trivial|((with_reducible refine AllP.go ?_);dsimp only [AllP,appP];repeat' (first|refine And.intro ?_ ?_|exact zz|assumption)))) (by rfl) (by rfl) ?_)
  all_goals intro _ _
  all_goals (repeat' (first|(with_reducible refine AllP.go ?_;first|exact og|((try simp only [OS]);repeat' (first|exact oj|refine And.intro ?_ ?_)))|(with_reducible first|exact PanicOk.body|exact rd.panic|refine PanicOk.then' ?_|refine PanicOk.block ?_|refine PanicOk.jump ?_)|(refine TL.done (by rfl) ?_)|(refine TL.auto tysOk rfl ?_ (by rfl) ?_ ?_)|(refine sm ?_ ?_)|(refine sp ?_ ?_)|(refine TL.one (by rfl) ?_)|(refine TL.two (by rfl) ?_ ?_)|(refine TL.three (by rfl) ?_ ?_ ?_)|(refine TL.four (by rfl) ?_ ?_ ?_ ?_)))
  all_goals (first|refine StepL.callW (hca) rfl rfl rfl rfl rfl (by rfl) (by (first|exact trivial|((with_reducible refine AllP.go ?_);dsimp only [AllP,appP];repeat' (first|refine And.intro ?_ ?_|exact zz|assumption)))) (by rfl) (by rfl) ?_|refine StepL.callW (hcs) rfl rfl rfl rfl rfl (by rfl) (by (first|exact trivial|((with_reducible refine AllP.go ?_);dsimp only [AllP,appP];repeat' (first|refine And.intro ?_ ?_|exact zz|assumption)))) (by rfl) (by rfl) ?_)
  all_goals intro _ _
  all_goals refine wf ?_
  all_goals (repeat (with_reducible first|refine stp ?_|refine tD rfl ?_))
  all_goals (first | ((refine TE.freezeN 1 (by rfl) (by rfl) ?_);(refine TE.freezeN 2 (by rfl) (by rfl) ?_)) | ((refine TE.freezeN 1 (by rfl) (by rfl) ?_);(refine TE.freezeN 3 (by rfl) (by rfl) ?_)) | ((refine TE.freezeN 2 (by rfl) (by rfl) ?_);(refine TE.freezeN 3 (by rfl) (by rfl) ?_)))
  all_goals exact aa
 refine wa ?_
 (refine TE.step rfl rfl rfl (fun _ h=>nomatch h) (m_mkMp (.mp false []) (by first | exact .inl ⟨_,rfl⟩ | exact .inr ⟨_,rfl⟩) rfl) ?_;rintro _ rfl)
 refine wb ?_
 refine cw (walk_c l) ?_
 intro _ _
 refine wb ?_
 (refine TE.only [47,9,8,6,4,1,0] (by rfl) ?_)
 (refine TE.range rfl (by rfl) (by rfl) (by kernel_rfl) (by rfl) (by rfl) rfl ?_)
 intro l' a1 w0 B0 S0 ν0 L
 (repeat (first|(with_reducible refine AllP.go ?_;first|exact og|((try simp only [OS]);repeat' (first|exact oj|refine And.intro ?_ ?_)))|(refine rg ?_ ?_)|(with_reducible first|refine stp ?_|refine tD rfl ?_)|(with_reducible first|exact PanicOk.body|exact rd.panic|refine PanicOk.then' ?_|refine PanicOk.block ?_|refine PanicOk.jump ?_)|(refine dc ?_)|(refine dn ?_)|(refine TL.done (by rfl) ?_)|(refine TL.auto tysOk rfl ?_ (by rfl) ?_ ?_)|((refine TL.one (by rfl) ?_);first|(refine sm ?_ ?_)|(refine sp ?_ ?_))|(refine sm ?_ ?_)|refine ct ?_|refine cf ?_))
 refine TE.nilOwn 3 3 1 (by rfl) ?_
 refine TE.nilOwn 4 9 1 (by rfl) ?_
 refine TE.loopG (fun q:Nat=>q≤l.length∧True) (fun q=>[(10,.o (.c (.int .i64 q))),(3,.o (.own 5)),(4,.o (.own 6))]) [5,6,2] (fun q=>[.own 5 3 1 (skC (stkI (nds l) q)),.own 6 9 1 (paC (pstI (nds l) q)),.obj 2 (.mp false (ents cnDs 0 (avs l q)))]) (fun q=>l.length - q) 0 (by rfl) ⟨Nat.zero_le _,trivial⟩ ?_ ?_
 ·(refine Ent.of rfl rfl (by rfl) ?_;(try (first|exact trivial|((with_reducible refine AllP.go ?_);dsimp only [AllP,appP];repeat' (first|refine And.intro ?_ ?_|exact zz)))))
  all_goals first | exact LeDC.nil rfl rfl
 rintro q ⟨hq,hg⟩
 by_cases hlt:q<l.length
 ·have hxd:((nds l).getD q n0).depth=(l.getD q b0).nd.depth:=by rw [nds_getD]
  have hxnm:((nds l).getD q n0).name=(l.getD q b0).nd.name:=by rw [nds_getD]
  have hks:(skC (stkI (nds l) q)).n=(stkI (nds l) q).length:=rfl
  have hkp:(paC (pstI (nds l) q)).n=(pstI (nds l) q).length:=rfl
  obtain ⟨f1,f2,f3,f4,f5⟩:=walk_facts hT (q:=q) (by omega)
  rw [hxd] at f1 f2 f3
  have ht1:((stkI (nds l) q).take (l.getD q b0).nd.depth.toNat).length=(l.getD q b0).nd.depth.toNat:=by rw [List.length_take];omega
  have ht2:((pstI (nds l) q).take ((l.getD q b0).nd.depth - 1).toNat).length=((l.getD q b0).nd.depth - 1).toNat:=by rw [List.length_take];omega
  refine wa ?_
  refine TE.midG (ι:=Unit) (fun _=>True) (fun _=>[(3,.o (.own 5)),(4,.o (.own 6))]) [5,6] (fun _=>[.own 5 3 1 (skC ((stkI (nds l) q).take (l.getD q b0).nd.depth.toNat)),.own 6 9 1 (paC ((pstI (nds l) q).take ((l.getD q b0).nd.depth - 1).toNat))]) (by rfl) ?_ fun _ _=>?_
  ·(refine TE.drawK (fun i=>!(Nat.beq i 5 || Nat.beq i 6)) (by rfl) (by rfl) (by rfl) ?_)
   (repeat' (first|(with_reducible refine AllP.go ?_;first|exact og|((try simp only [OS]);repeat' (first|exact oj|refine And.intro ?_ ?_)))|(with_reducible first|exact PanicOk.body|exact rd.panic|refine PanicOk.then' ?_|refine PanicOk.block ?_|refine PanicOk.jump ?_)|(refine TL.done (by rfl) ?_)|(refine TL.auto tysOk rfl ?_ (by rfl) ?_ ?_)|((refine TL.one (by rfl) ?_);first|(refine sm ?_ ?_)|(refine sp ?_ ?_)|(refine StepL.law rfl rfl rfl (fun _ h=>nomatch h) rfl (m_nilO rfl rfl) (by rfl) ?_;rintro _ rfl)|(refine StepL.law rfl rfl rfl (fun _ h=>nomatch h) rfl (m_cutOwn tysOk rfl (und_slice tysOk rfl) rfl rfl rfl rfl rfl ?_) (by rfl) ?_;rotate_left;rintro _ rfl;rotate_right;first|omega|skip))|(refine sm ?_ ?_)|(refine sp ?_ ?_)|(refine StepL.law rfl rfl rfl (fun _ h=>nomatch h) rfl (m_nilO rfl rfl) (by rfl) ?_;rintro _ rfl)|(refine StepL.law rfl rfl rfl (fun _ h=>nomatch h) rfl (m_cutOwn tysOk rfl (und_slice tysOk rfl) rfl rfl rfl rfl rfl ?_) (by rfl) ?_;rotate_left;rintro _ rfl;rotate_right;first|omega|skip)|((first|refine gl ?_ ?_|refine gc ?_ ?_)<;>intro h<;>(try simp only [NS] at h)<;>(try exact xf))|(refine TL.two (by rfl) ?_ ?_)|(refine TL.three (by rfl) ?_ ?_ ?_)|(refine TL.four (by rfl) ?_ ?_ ?_ ?_)))
   all_goals first | (simp only [Int.toNat_natCast];rw [hks];omega) | skip
   all_goals (repeat (with_reducible first|refine stp ?_|refine tD rfl ?_))
   all_goals (refine TE.at () trivial ?_;(refine Ent.of rfl rfl (by rfl) ?_;(try (first|exact trivial|((with_reducible refine AllP.go ?_);dsimp only [AllP,appP];repeat' (first|refine And.intro ?_ ?_|exact zz))))))
   all_goals first
    | exact head_take (by simp only [Int.toNat_natCast];rw [hks];omega) (by omega)
    | exact head_take (by simp only [Int.toNat_natCast];rw [hkp];omega) (by omega)
  (repeat (with_reducible first|refine stp ?_|refine tD rfl ?_))
  ((refine rg ?_ ?_);try (with_reducible refine AllP.go ?_;first|exact og|((try simp only [OS]);repeat' (first|exact oj|refine And.intro ?_ ?_))))
  refine TE.done (TE.thenN ?_)
  refine TE.seq ?_
  refine TE.midG (ι:=Unit) (fun _=>True) (fun _=>[(4,.o (.own 6)),(7,.o (.c (.int .i64 (aboveI (nds l) q))))]) [6] (fun _=>[.own 6 9 1 (paC (pstI (nds l) (q+1)))]) (by rfl) ?_ fun _ _=>?_
  ·rcases Nat.eq_zero_or_pos q with h0 | h0
   ·subst h0
    obtain ⟨r1,r2,r3⟩:=walk_root hT
    rw [hxd] at r1
    have ht3:((stkI (nds l) 0).take (l.getD 0 b0).nd.depth.toNat).length=0:=by rw [ht1,r1];rfl
    refine wa ?_
    (refine TE.at () trivial ?_;(refine Ent.of rfl rfl (by rfl) ?_;(try (first|exact trivial|((with_reducible refine AllP.go ?_);dsimp only [AllP,appP];repeat' (first|refine And.intro ?_ ?_|exact zz))))))
    rw [r3,List.take_nil,pstI_zero (by omega)]
    exact LeD.refl
   ·obtain ⟨k1,_,_,_,_,k6⟩:=walk_at hT (q:=q) (by omega) h0
    rw [hxd] at k1 k6
    have hix:(((skC ((stkI (nds l) q).take (l.getD q b0).nd.depth.toNat)).n:Int) - 1).toNat=((l.getD q b0).nd.depth - 1).toNat:=by
     show ((((stkI (nds l) q).take (l.getD q b0).nd.depth.toNat).length:Int) - 1).toNat=_
     rw [ht1]
     omega
    have hps:=pstI_succ (l:=nds l) (q:=q) (by omega) h0
    rw [hxd,hxnm] at hps
    refine wa ?_
    (refine TE.at () trivial ?_;(refine Ent.of rfl rfl (by rfl) ?_;(try (first|exact trivial|((with_reducible refine AllP.go ?_);dsimp only [AllP,appP];repeat' (first|refine And.intro ?_ ?_|exact zz))))))
    ·refine congrArg (Value.int _) ?_
     rw [hix,k6,getD_take (by omega)]
    ·exact listC_snoc _ hps (nth1 rfl)
  (refine TE.only [10,9,8,7,6,5,4,3,1,0] (by rfl) ?_)
  have hpl:(pstI (nds l) (q+1)).length≤1000000:=by rw [pstI_path hT (by omega)];have:=(pcheck_iff.1 (path_ok hT q (by omega))).1;omega
  refine wa ?_
  refine cw (cloneO_c (pstI (nds l) (q+1)) hpl) ?_
  intro _ _
  ((refine rn ?_ ?_);try (with_reducible refine AllP.go ?_;first|exact og|((try simp only [OS]);repeat' (first|exact oj|refine And.intro ?_ ?_))))
  (refine TE.freezeN 10 (by rfl) (by rfl) ?_)
  (refine TE.only [54,50,49,10,9,8,4,3,1,0] (by rfl) ?_)
  (refine TE.yield L rfl (by rfl) (by rfl) rfl rfl (by rfl) (by rfl) (by rfl) rfl (by rfl) ?_)
  intro Qr w1 B1 S1 ν1 rd
  (repeat (first|(with_reducible refine AllP.go ?_;first|exact og|((try simp only [OS]);repeat' (first|exact oj|refine And.intro ?_ ?_)))|(refine rg ?_ ?_)|(with_reducible first|refine stp ?_|refine tD rfl ?_)|(with_reducible first|exact PanicOk.body|exact rd.panic|refine PanicOk.then' ?_|refine PanicOk.block ?_|refine PanicOk.jump ?_)|(refine dc ?_)|(refine dn ?_)|(refine TL.done (by rfl) ?_)|(refine TL.auto tysOk rfl ?_ (by rfl) ?_ ?_)|((refine TL.one (by rfl) ?_);first|(refine sm ?_ ?_)|(refine sp ?_ ?_))|(refine sm ?_ ?_)|refine ct ?_|refine cf ?_))
  refine rd.begin ?_
  clear rd
  intro w1 B1 S1 ν1 rd
  have hpp:pstI (nds l) (q+1)=pathI (nds l) q:=pstI_path hT (by omega)
  have hst:=stkI_succ (l:=nds l) (q:=q) (by omega)
  rw [hxd] at hst
  have hpu:putM (ents cnDs 0 (avs l q)) (q:Int) (cnDs (aboveI (nds l) q))=ents cnDs 0 (avs l (q+1)):=by
   rw [avs_succ]
   exact put_new (f:=cnDs) (aboveI (nds l) q) _ _ _ (by rw [avs_len];omega)
  refine wa ?_
  (refine TE.step rfl rfl rfl (fun _ h=>nomatch h) (m_mpUp (mpI false) rfl rfl (Tryz.underlying80) (Tryz.underlying3) rfl rfl rfl rfl rfl) ?_;rintro _ rfl)
  refine wb ?_
  refine rd.normal ?_
  refine wb ?_
  refine TE.again' (q+1) ⟨by omega,trivial⟩ (by omega) ?_
  (refine Ent.of rfl rfl (by rfl) ?_;(try (first|exact trivial|((with_reducible refine AllP.go ?_);dsimp only [AllP,appP];repeat' (first|refine And.intro ?_ ?_|exact zz)))))
  all_goals first | exact listC_snoc _ hst (nth1 rfl) | exact congrArg (AO.mp false) hpu
 ·obtain rfl:q=l.length:=by omega
  refine wa ?_
  refine TE.iterEnd L (by first | exact .inl rfl | exact .inr rfl) (by rfl) ?_
  have hkl:(kidsL l k).length≤l.length:=idxs_len _ _
  refine wa ?_
  refine TE.nilBox 1 3 55 12 (by rfl) (by rfl) ?_
  (refine TE.only [56,55,54,9,8,4,1,0] (by rfl) ?_)
  refine TE.loopG (fun q:Nat=>q≤(kidsL l k).length) (fun q=>[(56,.o (.c (.int .i64 q)))]) [1,7,5] (fun q=>[.box 1 48 [.ro 2 (l.getD k b0).nd.attrs.length (atC (l.getD k b0).nd.attrs).cell,.c (.bool (l.getD k b0).opq),.ro 1 (l.getD k b0).red.length (paC (l.getD k b0).red).cell,.own 7],.own 7 55 12 (enC (((kidsL l k).take q).map (entI l k)))]) (fun q=>(kidsL l k).length - q) 0 (by rfl) (Nat.zero_le _) ?_ ?_
  ·(refine Ent.of rfl rfl (by rfl) ?_;(try (first|exact trivial|((with_reducible refine AllP.go ?_);dsimp only [AllP,appP];repeat' (first|refine And.intro ?_ ?_|exact zz)))))
   all_goals exact LeDC.nil rfl rfl
  intro q hq
  by_cases hlt:q<(kidsL l k).length
  ·obtain ⟨i,hi⟩:∃ i,i=(kidsL l k).getD q 0:=⟨_,rfl⟩
   obtain ⟨i1,i2⟩:=kid_iff.1 (show i∈kidsL l k by rw [hi];exact getD_mem hlt)
   have hnl:(namesL l i).length≤l.length:=idxs_len _ _
   have hnm:i∈namesL l i:=idxs_mem.2 ⟨i1,by unfold namesP;simp⟩
   have hnc:=names_c l i i1 hl
   have hmc:=min_c l (namesL l i) (List.length_pos_of_mem hnm) (fun k hk=>names_lt hk) hl (by omega)
   have hpc:=plain_c (l.getD i b0) (hx _ (getD_mem (d:=b0) i1)).1.1
   have hcn:(enC (((kidsL l k).take q).map (entI l k))).n=q:=by show (((kidsL l k).take q).map (entI l k)).length=q;rw [List.length_map,List.length_take];omega
   have hfm:=first_min (l:=l) (n:=(k:Int)) i1 i2
   refine wa ?_
   rw [show (kidsL l k).getD ((q:Nat):Int).toNat 0=i from hi.symm]
   refine cw (hnc) ?_
   intro _ _
   refine wb ?_
   refine cw (hmc) ?_
   intro _ _
   refine wb ?_
   (refine TE.only [56,55,54,15,14,13,9,8,4,1,0] (by rfl) ?_)
   refine TE.midG (ι:=Unit) (fun _=>True) (fun _=>[(16,.o (.ptr 5 0))]) [5] (fun _=>[.box 5 55 [.c (.string (l.getD i b0).nd.name),.c (.int .i64 (l.getD i b0).nd.depth),.c (.string (l.getD i b0).nd.name),.c (.int .i64 (l.getD i b0).nd.kind),.ro 2 (l.getD i b0).nd.attrs.length (atC (l.getD i b0).nd.attrs).cell,.c (.string (l.getD i b0).nd.data),.c (.int .i64 (l.getD i b0).nd.major),.c (.int .i64 (l.getD i b0).nd.minor),.c (.int .i64 (l.getD i b0).nd.cls),.sb (decide ((l.getD i b0).nd.kind=5)),.sb (firstP l k i),.c (.int .i64 ((namesL l i).length:Nat))]]) (by rfl) ?_ fun _ _=>?_
   ·(refine TE.drawK (fun _=>false) (by rfl) (by rfl) (by rfl) ?_)
    (repeat' (first|(with_reducible refine AllP.go ?_;first|exact og|((try simp only [OS]);repeat' (first|exact oj|refine And.intro ?_ ?_)))|(with_reducible first|exact PanicOk.body|exact rd.panic|refine PanicOk.then' ?_|refine PanicOk.block ?_|refine PanicOk.jump ?_)|(refine TL.done (by rfl) ?_)|(refine TL.auto tysOk rfl ?_ (by rfl) ?_ ?_)|(refine sm ?_ ?_)|(refine sp ?_ ?_)|(refine TL.one (by rfl) ?_)|(refine TL.two (by rfl) ?_ ?_)|(refine TL.three (by rfl) ?_ ?_ ?_)|(refine TL.four (by rfl) ?_ ?_ ?_ ?_)))
    all_goals (refine StepL.callW (hpc) rfl rfl rfl rfl rfl (by rfl) (by (first|exact trivial|((with_reducible refine AllP.go ?_);dsimp only [AllP,appP];repeat' (first|refine And.intro ?_ ?_|exact zz|assumption)))) (by rfl) (by rfl) ?_;intro _ _;(repeat' (first|(with_reducible refine AllP.go ?_;first|exact og|((try simp only [OS]);repeat' (first|exact oj|refine And.intro ?_ ?_)))|(with_reducible first|exact PanicOk.body|exact rd.panic|refine PanicOk.then' ?_|refine PanicOk.block ?_|refine PanicOk.jump ?_)|(refine TL.done (by rfl) ?_)|(refine TL.auto tysOk rfl ?_ (by rfl) ?_ ?_)|(refine sm ?_ ?_)|(refine sp ?_ ?_)|(refine TL.one (by rfl) ?_)|(refine TL.two (by rfl) ?_ ?_)|(refine TL.three (by rfl) ?_ ?_ ?_)|(refine TL.four (by rfl) ?_ ?_ ?_ ?_))))
    all_goals ((refine StepL.law rfl rfl rfl (fun _ h=>nomatch h) rfl (m_buildN tysOk rfl (by rfl) (by rfl) (by rfl) (by rfl)) (by rfl) ?_;rintro _ rfl);(repeat' (first|(with_reducible refine AllP.go ?_;first|exact og|((try simp only [OS]);repeat' (first|exact oj|refine And.intro ?_ ?_)))|(with_reducible first|exact PanicOk.body|exact rd.panic|refine PanicOk.then' ?_|refine PanicOk.block ?_|refine PanicOk.jump ?_)|(refine TL.done (by rfl) ?_)|(refine TL.auto tysOk rfl ?_ (by rfl) ?_ ?_)|(refine sm ?_ ?_)|(refine sp ?_ ?_)|(refine TL.one (by rfl) ?_)|(refine TL.two (by rfl) ?_ ?_)|(refine TL.three (by rfl) ?_ ?_ ?_)|(refine TL.four (by rfl) ?_ ?_ ?_ ?_))))
    all_goals (repeat (with_reducible first|refine stp ?_|refine tD rfl ?_))
    all_goals (refine TE.at () trivial ?_;(refine Ent.of rfl rfl (by rfl) ?_;(try (first|exact trivial|((with_reducible refine AllP.go ?_);dsimp only [AllP,appP];repeat' (first|refine And.intro ?_ ?_|exact zz))))))
    all_goals exact (decide_eq_decide.2 (by omega)).trans hfm
   have htk:((kidsL l k).take q).length=q:=by rw [List.length_take];omega
   have hsn:((kidsL l k).take (q+1)).map (entI l k)=((kidsL l k).take q).map (entI l k)++[entI l k i]:=by rw [map_take (d:=0) hlt,← hi]
   by_cases hkd:(l.getD i b0).nd.kind=1
   ·have hen:(entI l k i).node={ n0 with kind:=1 }:=if_pos hkd
    refine wa ?_
    refine TE.again' (q+1) (by omega) (by omega) ?_
    (refine Ent.of rfl rfl (by rfl) ?_;(try (first|exact trivial|((with_reducible refine AllP.go ?_);dsimp only [AllP,appP];repeat' (first|refine And.intro ?_ ?_|exact zz)))))
    all_goals refine listC_snocX _ hsn (ent_row ?_ ?_ ?_ ?_ ?_ ?_ ?_ ?_ ?_ ?_ ?_ ?_)
    all_goals first | exact LeX.of_eq rfl | (refine LeX.of_eq ?_;simp only [enR,hen];rfl) | (simp only [enR,hen];exact LeX.nil rfl)
   ·have hen:(entI l k i).node={ (l.getD i b0).nd with depth:=0,name:=eS }:=if_neg hkd
    refine wa ?_
    refine TE.again' (q+1) (by omega) (by omega) ?_
    (refine Ent.of rfl rfl (by rfl) ?_;(try (first|exact trivial|((with_reducible refine AllP.go ?_);dsimp only [AllP,appP];repeat' (first|refine And.intro ?_ ?_|exact zz)))))
    all_goals refine listC_snocX _ hsn (ent_row ?_ ?_ ?_ ?_ ?_ ?_ ?_ ?_ ?_ ?_ ?_ ?_)
    all_goals first | exact LeX.of_eq rfl | (refine LeX.of_eq ?_;simp only [enR,hen];rfl) | (simp only [enR,hen];exact LeX.nil rfl)
  ·obtain rfl:q=(kidsL l k).length:=by omega
   refine wa ?_
   (refine TE.freezeN 7 (by rfl) (by rfl) ?_)
   (refine TE.ret' io rfl tysOk (()) ?_ rfl (by rfl) ?_;all_goals (try (first|exact trivial|((with_reducible refine AllP.go ?_);dsimp only [AllP,appP];repeat' (first|refine And.intro ?_ ?_|exact zz)))))
   rw [List.take_length]
   exact LeD.refl
abbrev nEx (d:Int) (nm:ByteArray) (k:Int) (dt:ByteArray) (c:Int):Nd:=⟨d,nm,k,[],dt,0,0,c⟩
def exL:List Bn:=[⟨nEx 0 eS 1 eS 0,false,[]⟩,⟨nEx 1 ⟨#[97]⟩ 1 eS 0,true,[]⟩,⟨nEx 2 ⟨#[120]⟩ 2 ⟨#[49,50]⟩ 1,false,[]⟩,⟨nEx 1 ⟨#[100]⟩ 1 eS 0,false,[⟨#[111,108,100]⟩,⟨#[100]⟩]⟩,⟨nEx 2 ⟨#[119]⟩ 5 eS 0,false,[]⟩,⟨nEx 2 ⟨#[121]⟩ 2 ⟨#[49,50]⟩ 1,false,[]⟩]
theorem ints_c (a b:List Nat) (ha:a.length≤1000000) (hb:b.length≤1000000):Con Tryz.prog 19 [.o (.ro 1 a.length (skC a).cell),.o (.ro 1 b.length (skC b).cell)] [] 0 0 U (fun _=>.o (.sb (decide (a=b)))) G0:=by
 refine con_of Tryz.func19 rfl (by kernel_rfl) Tryz.ntmps19 rfl (by first | exact Nat.zero_le _ | decide) (fun _=>⟨rfl,rfl⟩) fun w S ν=>?_
 refine wa ?_
 refine TE.loopG (fun q:Nat=>q≤a.length∧q≤b.length∧∀ j,j<q→a.getD j 0=b.getD j 0) (fun q=>[(5,.o (.c (.int .i64 q)))]) [] (fun _=>[]) (fun q=>a.length - q) 0 (by rfl) ⟨Nat.zero_le _,Nat.zero_le _,fun j hj=>absurd hj (Nat.not_lt_zero _)⟩ ?_ ?_
 ·exact ee
 rintro q ⟨hq,hq2,hg⟩
 by_cases h1:q<a.length∧q<b.length
 ·by_cases he:a.getD q 0=b.getD q 0
  ·refine wc ?_
   all_goals refine TE.again' (q+1) ⟨by omega,by omega,fun j hj=>?_⟩ (by omega) ?_
   all_goals first
    | (rcases Nat.lt_or_ge j q with h5 | h5
       ·exact hg j h5
       ·obtain rfl:j=q:=by omega
        exact he)
    | (refine Ent.of rfl rfl (by rfl) ?_;(try (first|exact trivial|((with_reducible refine AllP.go ?_);dsimp only [AllP,appP];repeat' (first|refine And.intro ?_ ?_|exact zz)))))
  ·have hne:a≠b:=fun e=>he (by rw [e])
   refine wc ?_
   all_goals (refine TE.ret' io rfl tysOk (()) ?_ rfl (by rfl) ?_;all_goals (try (first|exact trivial|((with_reducible refine AllP.go ?_);dsimp only [AllP,appP];repeat' (first|refine And.intro ?_ ?_|exact zz)))))
   all_goals exact congrArg Value.bool (decide_eq_false hne).symm
 ·have hfin:decide (a.length=b.length)=decide (a=b):=by
   refine decide_eq_decide.2 ⟨fun e=>?_,fun e=>by rw [e]⟩
   refine List.ext_getElem e fun k k1 k2=>?_
   have:=hg k (by omega)
   rwa [List.getD_eq_getElem?_getD,List.getD_eq_getElem?_getD,List.getElem?_eq_getElem k1,List.getElem?_eq_getElem k2] at this
  (repeat' (first|(with_reducible refine AllP.go ?_;first|exact og|((try simp only [OS]);repeat' (first|exact oj|refine And.intro ?_ ?_)))|(refine rg ?_ ?_)|(with_reducible first|refine stp ?_|refine tD rfl ?_)|(with_reducible first|exact PanicOk.body|exact rd.panic|refine PanicOk.then' ?_|refine PanicOk.block ?_|refine PanicOk.jump ?_)|(refine dc ?_)|(refine dn ?_)|(refine TL.done (by rfl) ?_)|(refine TL.auto tysOk rfl ?_ (by rfl) ?_ ?_)|((refine TL.one (by rfl) ?_);first|(refine sm ?_ ?_)|(refine sp ?_ ?_))|(refine sm ?_ ?_)|refine ct ?_|refine cf ?_|((first|refine gs ?_ ?_|refine gl ?_ ?_|refine gc ?_ ?_)<;>intro h<;>(try simp only [NS] at h)<;>(try exact xf)<;>(try refine rn ?_ ?_))))
  all_goals (refine TE.ret' io rfl tysOk (()) ?_ rfl (by rfl) ?_;all_goals (try (first|exact trivial|((with_reducible refine AllP.go ?_);dsimp only [AllP,appP];repeat' (first|refine And.intro ?_ ?_|exact zz)))))
  all_goals exact (decide_eq_decide.2 (by omega)).trans hfin
theorem bn_row {x:Bn} {r:List DC} (h0:LeX (nthD r 0) (bnR x 0)) (h1:LeX (nthD r 1) (bnR x 1)) (h2:LeX (nthD r 2) (bnR x 2)) (h3:LeX (nthD r 3) (bnR x 3)) (h4:LeX (nthD r 4) (bnR x 4)) (h5:LeX (nthD r 5) (bnR x 5)) (h6:LeX (nthD r 6) (bnR x 6)) (h7:LeX (nthD r 7) (bnR x 7)) (h8:LeX (nthD r 8) (bnR x 8)) (h9:LeX (nthD r 9) (bnR x 9)):∀ j,j<10→LeX (nthD r j) (bnR x j)
 | 0,_=>h0
 | 1,_=>h1
 | 2,_=>h2
 | 3,_=>h3
 | 4,_=>h4
 | 5,_=>h5
 | 6,_=>h6
 | 7,_=>h7
 | 8,_=>h8
 | 9,_=>h9
 | j+10,h=>absurd h (by omega)
theorem example_c:Con Tryz.prog 13 [] [] 0 1 U (fun _=>.o (.own 0)) (fun _=>[.own 0 37 10 (bnC exL)]):=by
 refine con_of Tryz.func13 rfl (by kernel_rfl) Tryz.ntmps13 rfl (by first | exact Nat.zero_le _ | decide) (fun _=>⟨rfl,rfl⟩) fun w S ν=>?_
 refine wa ?_
 (refine TE.freezeN 0 (by rfl) (by rfl) ?_)
 refine wb ?_
 (refine TE.ret' io rfl tysOk (()) ?_ rfl (by rfl) ?_;all_goals (try (first|exact trivial|((with_reducible refine AllP.go ?_);dsimp only [AllP,appP];repeat' (first|refine And.intro ?_ ?_|exact zz)))))
 (refine LeD.lit rfl ?_;repeat' (first | exact trivial | exact LeX.of_eq rfl | exact LeX.nil rfl | (refine LeX.lit rfl ?_) | refine nth1x ?_ | refine nth2x ?_ ?_ | refine nth3x ?_ ?_ ?_ | refine nth4x ?_ ?_ ?_ ?_ | refine And.intro ?_ ?_))
 all_goals refine bn_row ?_ ?_ ?_ ?_ ?_ ?_ ?_ ?_ ?_ ?_
 all_goals first | exact LeX.of_eq rfl | exact LeX.nil rfl | skip
 all_goals (refine LeX.lit rfl ?_;repeat' (first | exact trivial | exact LeX.of_eq rfl | exact LeX.nil rfl | (refine LeX.lit rfl ?_) | refine nth1x ?_ | refine nth2x ?_ ?_ | refine nth3x ?_ ?_ ?_ | refine nth4x ?_ ?_ ?_ ?_ | refine And.intro ?_ ?_))
theorem ex_dirs:dirsE exL=([0,1,3],0):=by decide
theorem ex_kids:kidsE exL 3=([4,5],0):=by decide
theorem ex_names:namesE exL 2=([2,5],0):=by decide
theorem ex_at:atE exL [⟨#[100]⟩,⟨#[119]⟩]=(4,0):=by decide
theorem ex_dir:dirE exL 3=(⟨[],false,[⟨#[111,108,100]⟩,⟨#[100]⟩],[⟨⟨#[119]⟩,⟨0,eS,5,[],eS,0,0,0⟩,true,true,1⟩,⟨⟨#[121]⟩,⟨0,eS,2,[],⟨#[49,50]⟩,0,0,1⟩,false,false,2⟩]⟩,0):=by decide
def exA:List Bn:=exL.set 3 { exL.getD 3 b0 with red:=[⟨#[100]⟩] }
def exB:List Bn:=exL.set 1 { exL.getD 1 b0 with red:=[⟨#[113]⟩] }
theorem ex_a:checkB exA=(3,6):=by decide
theorem ex_b:checkB exB=(1,6):=by decide
theorem bok_small {l:List Bn} (h:l.all (fun x=>decide (x.nd.attrs.length=0∧x.nd.name.size≤1000∧x.red.length≤1000) && x.red.all (fun s=>decide (s.size≤1000)))=true):∀ x∈l,okB x:=fun x hx=>by
 have h1:=List.all_eq_true.1 h x hx
 rw [Bool.and_eq_true,decide_eq_true_eq,List.all_eq_true] at h1
 obtain ⟨⟨h2,h3,h4⟩,h5⟩:=h1
 have h6:x.nd.attrs=[]:=List.length_eq_zero_iff.1 h2
 refine ⟨⟨by omega,by rw [h6];decide,by omega⟩,by omega,fun s hs=>?_⟩
 have:=of_decide_eq_true (h5 s hs)
 omega
theorem ex_ok:∀ x∈exL,okB x:=bok_small (by decide)
theorem exA_ok:∀ x∈exA,okB x:=bok_small (by decide)
theorem exB_ok:∀ x∈exB,okB x:=bok_small (by decide)
theorem bn_setR {l:List Bn} {i:Nat} {d:DC} {r:List ByteArray} (hi:i<l.length) (h:LeX d (bnR { l.getD i b0 with red:=r } 9)):LeDC 10 (setC (bnC l) i 9 d) (bnC (l.set i { l.getD i b0 with red:=r })):=by
 refine ⟨(List.length_set ..).symm,fun a j ha hj=>?_⟩
 show LeX (if a=i∧j=9 then d else bnR (l.getD a b0) j) (bnR ((l.set i { l.getD i b0 with red:=r }).getD a b0) j)
 rw [getD_set hi]
 by_cases e:a=i
 ·subst e
  rw [if_pos rfl]
  by_cases e2:j=9
  ·subst e2
   rw [if_pos ⟨rfl,rfl⟩]
   exact h
  ·rw [if_neg (fun k=>e2 k.2)]
   refine LeX.of_eq ?_
   match j,hj,e2 with
   | 0,_,_=>rfl
   | 1,_,_=>rfl
   | 2,_,_=>rfl
   | 3,_,_=>rfl
   | 4,_,_=>rfl
   | 5,_,_=>rfl
   | 6,_,_=>rfl
   | 7,_,_=>rfl
   | 8,_,_=>rfl
   | 9,_,h=>exact absurd rfl h
   | j+10,h,_=>omega
 ·rw [if_neg (fun k=>e k.1),if_neg e]
  exact LeX.of_eq rfl
set_option maxHeartbeats 16000000 in
theorem shown_c:Con Tryz.prog 6 [] [] 0 0 U (fun _=>.o (.c (.bool true))) G0:=by
 refine con_of0 Tryz.func6 rfl (by kernel_rfl) Tryz.ntmps6 rfl (by first | exact Nat.zero_le _ | decide) (fun _=>⟨rfl,rfl⟩) fun w S ν=>?_
 have hl:exL.length≤1000000:=by decide
 have c1:=dirs_c exL hl ex_ok
 have c2:=Kids_c exL 3 hl ex_ok
 have c3:=Names_c exL 2 hl ex_ok
 have c4:=at_c exL [⟨#[100]⟩,⟨#[119]⟩] hl ex_ok ⟨by decide,by decide⟩
 have c5:=Dir_c exL 3 hl ex_ok
 rw [ex_dirs] at c1
 rw [ex_kids] at c2
 rw [ex_names] at c3
 rw [ex_at] at c4
 rw [ex_dir] at c5
 have i1:=ints_c [0,1,3] [0,1,3] (by decide) (by decide)
 have i2:=ints_c [4,5] [4,5] (by decide) (by decide)
 have i3:=ints_c [2,5] [2,5] (by decide) (by decide)
 rw [decide_eq_true rfl] at i1 i2 i3
 refine wa ?_
 refine cw (example_c) ?_
 intro _ _
 refine wb ?_
 refine TE.lend 1 0 rfl (by rfl) (by rfl) (by decide) (by rfl) ?_
 intro w0 B0 S0 ν0 v S1 g L
 refine cw (c1) ?_
 intro _ _
 refine wb ?_
 refine cw (c2) ?_
 intro _ _
 refine wb ?_
 refine cw (c3) ?_
 intro _ _
 refine wb ?_
 (refine TE.freezeN 1 (by rfl) (by rfl) ?_)
 refine TE.callW (c4) rfl (by rfl) (by rfl) rfl (by rfl) (by (first|exact trivial|((with_reducible refine AllP.go ?_);dsimp only [AllP,appP];repeat' (first|with_reducible rfl|with_reducible exact LeD.refl|refine And.intro ?_ ?_|exact vi|rfl|exact vb|exact trivial|(refine LeD.lit rfl ?_)|exact LeX.of_eq rfl|exact LeX.nil rfl|(refine LeX.lit rfl ?_)|refine nth1x ?_|refine nth2x ?_ ?_|refine nth3x ?_ ?_ ?_|refine nth4x ?_ ?_ ?_ ?_|exact LeD.refl)))) ?_
 intro _ _
 refine wb ?_
 refine cw (c5) ?_
 intro _ _
 refine wb ?_
 (refine TE.freezeN 3 (by rfl) (by rfl) ?_)
 refine TE.callW (i1) rfl (by rfl) (by rfl) rfl (by rfl) (by (first|exact trivial|((with_reducible refine AllP.go ?_);dsimp only [AllP,appP];repeat' (first|with_reducible rfl|with_reducible exact LeD.refl|refine And.intro ?_ ?_|exact vi|rfl|exact vb|exact trivial|(refine LeD.lit rfl ?_)|exact LeX.of_eq rfl|exact LeX.nil rfl|(refine LeX.lit rfl ?_)|refine nth1x ?_|refine nth2x ?_ ?_|refine nth3x ?_ ?_ ?_|refine nth4x ?_ ?_ ?_ ?_|exact LeD.refl)))) ?_
 intro _ _
 refine wb ?_
 (refine TE.freezeN 4 (by rfl) (by rfl) ?_)
 refine TE.callW (i2) rfl (by rfl) (by rfl) rfl (by rfl) (by (first|exact trivial|((with_reducible refine AllP.go ?_);dsimp only [AllP,appP];repeat' (first|with_reducible rfl|with_reducible exact LeD.refl|refine And.intro ?_ ?_|exact vi|rfl|exact vb|exact trivial|(refine LeD.lit rfl ?_)|exact LeX.of_eq rfl|exact LeX.nil rfl|(refine LeX.lit rfl ?_)|refine nth1x ?_|refine nth2x ?_ ?_|refine nth3x ?_ ?_ ?_|refine nth4x ?_ ?_ ?_ ?_|exact LeD.refl)))) ?_
 intro _ _
 refine wb ?_
 (refine TE.freezeN 5 (by rfl) (by rfl) ?_)
 refine TE.callW (i3) rfl (by rfl) (by rfl) rfl (by rfl) (by (first|exact trivial|((with_reducible refine AllP.go ?_);dsimp only [AllP,appP];repeat' (first|with_reducible rfl|with_reducible exact LeD.refl|refine And.intro ?_ ?_|exact vi|rfl|exact vb|exact trivial|(refine LeD.lit rfl ?_)|exact LeX.of_eq rfl|exact LeX.nil rfl|(refine LeX.lit rfl ?_)|refine nth1x ?_|refine nth2x ?_ ?_|refine nth3x ?_ ?_ ?_|refine nth4x ?_ ?_ ?_ ?_|exact LeD.refl)))) ?_
 intro _ _
 ((refine rn ?_ ?_);repeat' (first|(with_reducible refine AllP.go ?_;first|exact og|((try simp only [OS]);repeat' (first|exact oj|refine And.intro ?_ ?_)))|(with_reducible first|refine stp ?_|refine tD rfl ?_)|refine ct ?_|refine cf ?_|((first|refine gs ?_ ?_|refine gl ?_ ?_|refine gc ?_ ?_)<;>intro h<;>(try simp only [NS] at h)<;>(try exact xf)<;>(try refine rn ?_ ?_))))
 refine TE.thaw L 1 (by repeat (first | exact List.mem_cons_self .. | refine List.mem_cons_of_mem _ ?_)) (by rfl) ?_
 (refine TE.only [1,0] (by rfl) ?_)
 have hlen:exL.length=6:=rfl
 have c6:=checkB_c exA (by decide) exA_ok
 have c7:=checkB_c exB (by decide) exB_ok
 rw [ex_a] at c6
 rw [ex_b] at c7
 have hA:LeDC 10 (setC (bnC exL) (Int.toNat 3) 9 (.sl 1 (litC [[DC.c (.string ⟨#[100]⟩)]]).n (litC [[DC.c (.string ⟨#[100]⟩)]]).cell)) (bnC exA):=bn_setR (by decide) (by (refine LeX.lit rfl ?_;repeat' (first | exact trivial | exact LeX.of_eq rfl | exact LeX.nil rfl | (refine LeX.lit rfl ?_) | refine nth1x ?_ | refine nth2x ?_ ?_ | refine nth3x ?_ ?_ ?_ | refine nth4x ?_ ?_ ?_ ?_ | refine And.intro ?_ ?_)))
 have hB:LeDC 10 (setC (bnC exL) (Int.toNat 1) 9 (.sl 1 (litC [[DC.c (.string ⟨#[113]⟩)]]).n (litC [[DC.c (.string ⟨#[113]⟩)]]).cell)) (bnC exB):=bn_setR (by decide) (by (refine LeX.lit rfl ?_;repeat' (first | exact trivial | exact LeX.of_eq rfl | exact LeX.nil rfl | (refine LeX.lit rfl ?_) | refine nth1x ?_ | refine nth2x ?_ ?_ | refine nth3x ?_ ?_ ?_ | refine nth4x ?_ ?_ ?_ ?_ | refine And.intro ?_ ?_)))
 refine wa ?_
 (refine TE.freezeN 7 (by rfl) (by rfl) ?_)
 refine wb ?_
 (refine TE.freezeN 6 (by rfl) (by rfl) ?_)
 refine TE.callW (c6) rfl (by rfl) (by rfl) rfl (by rfl) ?_ ?_
 ·refine AllP.go ?_
  refine And.intro rfl ?_
  exact hA
 intro _ _
 refine wb ?_
 refine cw (example_c) ?_
 intro _ _
 refine wb ?_
 (refine TE.freezeN 9 (by rfl) (by rfl) ?_)
 refine wb ?_
 (refine TE.freezeN 8 (by rfl) (by rfl) ?_)
 refine TE.callW (c7) rfl (by rfl) (by rfl) rfl (by rfl) ?_ ?_
 ·refine AllP.go ?_
  refine And.intro rfl ?_
  exact hB
 intro _ _
 refine wb ?_
 exact po
end Go.Proofs.YtalmoocpebhoiaaGreatDoor.Am
namespace Go.Proofs.YtalmoocpebhoiaaGreatDoor.Am
open Go.RowKit Lw
open Br Wo
theorem mark_c (m:Int) (te:TypeId) (pe:Value) (s:Bs) (hl:s.length≤900000):Con Tryz.prog 36 [.o (.c (.string (sB s)))] (glC m te pe) 4 4 U (fun _=>.t [.inl (.ro 2 (splitI s).1.length (fdC (splitI s).1).cell),.inl (.c (.bool (isMark s)))]) (fun _=>glC m te pe):=by
 refine con_of Tryz.func36 rfl (by kernel_rfl) Tryz.ntmps36 rfl (by first | exact Nat.zero_le _ | decide) (fun _=>⟨rfl,rfl⟩) fun w S ν=>?_
 have hsp:=Split_c m te pe s (by omega)
 obtain ⟨h64,h2000⟩:=split_fine s
 have hse:=split_err (s:=s)
 have hM:isMark s=match (splitI s).1 with
  | (w,false) :: _=>decide (w=opqW∨w=redW)
  | _=>false:=rfl
 obtain ⟨B,hB⟩:∃ B,B=isMark s:=⟨_,rfl⟩
 rw [← hB]
 rw [hM] at hB
 clear hM
 generalize splitI s=x at *
 obtain ⟨fs,e⟩:=x
 dsimp only at *
 refine wa ?_
 refine cw (hsp) ?_
 intro _ _
 refine wb ?_
 match fs,h64,h2000,hse,hB with
 | [],_,_,_,hB=>
  have hB:B=false:=hB
  subst hB
  (refine TE.drawK (fun _=>false) (by rfl) (by rfl) (by rfl) ?_)
  (repeat' (first|(with_reducible refine AllP.go ?_;first|exact og|((try simp only [OS]);repeat' (first|exact oj|refine And.intro ?_ ?_)))|(refine rg ?_ ?_)|(with_reducible first|refine stp ?_|refine tD rfl ?_)|(with_reducible first|exact PanicOk.body|exact rd.panic|refine PanicOk.then' ?_|refine PanicOk.block ?_|refine PanicOk.jump ?_)|(refine dc ?_)|(refine dn ?_)|(refine TL.done (by rfl) ?_)|(refine TL.auto tysOk rfl ?_ (by rfl) ?_ ?_)|((refine TL.one (by rfl) ?_);first|(refine sm ?_ ?_)|(refine sp ?_ ?_))|(refine sm ?_ ?_)|refine ct ?_|refine cf ?_|((first|refine gs ?_ ?_|refine gl ?_ ?_|refine gc ?_ ?_)<;>intro h<;>(try simp only [NS] at h)<;>(try exact xf)<;>(try refine rn ?_ ?_))))
  all_goals exact po
 | (w,true) :: t,h64,_,hse,hB=>
  have hB:B=false:=hB
  subst hB
  (refine TE.drawK (fun _=>false) (by rfl) (by rfl) (by rfl) ?_)
  (repeat' (first|(with_reducible refine AllP.go ?_;first|exact og|((try simp only [OS]);repeat' (first|exact oj|refine And.intro ?_ ?_)))|(refine rg ?_ ?_)|(with_reducible first|refine stp ?_|refine tD rfl ?_)|(with_reducible first|exact PanicOk.body|exact rd.panic|refine PanicOk.then' ?_|refine PanicOk.block ?_|refine PanicOk.jump ?_)|(refine dc ?_)|(refine dn ?_)|(refine TL.done (by rfl) ?_)|(refine TL.auto tysOk rfl ?_ (by rfl) ?_ ?_)|((refine TL.one (by rfl) ?_);first|(refine sm ?_ ?_)|(refine sp ?_ ?_))|(refine sm ?_ ?_)|refine ct ?_|refine cf ?_|((first|refine gs ?_ ?_|refine gl ?_ ?_|refine gc ?_ ?_)<;>intro h<;>(try simp only [NS] at h)<;>(try exact xf)<;>(try refine rn ?_ ?_))))
  all_goals exact po
 | (w,false) :: t,h64,_,hse,hB=>
  have hB:B=decide (w=opqW∨w=redW):=hB
  have he:e=0:=Decidable.byContradiction fun k=>nomatch hse k
  have hlp:0<((w,false) :: t).length:=Nat.succ_pos _
  subst he
  by_cases h1:w=opqW
  ·rw [decide_eq_true (.inl h1)] at hB
   subst hB h1
   (refine TE.drawK (fun _=>false) (by rfl) (by rfl) (by rfl) ?_)
   refine wc ?_
   all_goals first|((refine TE.ret' io rfl tysOk (()) ?_ rfl (by rfl) ?_;all_goals (try (first|exact trivial|((with_reducible refine AllP.go ?_);dsimp only [AllP,appP];repeat' (first|refine And.intro ?_ ?_|exact zz)))));done)|(exfalso;omega)|skip
   all_goals exact absurd rfl h
  ·by_cases h2:w=redW
   ·rw [decide_eq_true (.inr h2)] at hB
    subst hB h2
    (refine TE.drawK (fun _=>false) (by rfl) (by rfl) (by rfl) ?_)
    (repeat' (first|(with_reducible refine AllP.go ?_;first|exact og|((try simp only [OS]);repeat' (first|exact oj|refine And.intro ?_ ?_)))|(refine rg ?_ ?_)|(with_reducible first|refine stp ?_|refine tD rfl ?_)|(with_reducible first|exact PanicOk.body|exact rd.panic|refine PanicOk.then' ?_|refine PanicOk.block ?_|refine PanicOk.jump ?_)|(refine dc ?_)|(refine dn ?_)|(refine TL.done (by rfl) ?_)|(refine TL.auto tysOk rfl ?_ (by rfl) ?_ ?_)|((refine TL.one (by rfl) ?_);first|(refine sm ?_ ?_)|(refine sp ?_ ?_))|(refine sm ?_ ?_)|refine ct ?_|refine cf ?_|((first|refine gs ?_ ?_|refine gl ?_ ?_|refine gc ?_ ?_)<;>intro h<;>(try simp only [NS] at h)<;>(try exact xf)<;>(try refine rn ?_ ?_))))
    all_goals first|((refine TE.ret' io rfl tysOk (()) ?_ rfl (by rfl) ?_;all_goals (try (first|exact trivial|((with_reducible refine AllP.go ?_);dsimp only [AllP,appP];repeat' (first|refine And.intro ?_ ?_|exact zz)))));done)|(exfalso;omega)|skip
   ·rw [decide_eq_false fun k=>k.elim h1 h2] at hB
    have h4:decide (sB w=⟨#[114,101,100,105,114,101,99,116]⟩)=false:=decide_eq_false fun k=>h2 (sB_inj.1 (show sB w=sB redW from k))
    have h5:¬ sB w=⟨#[111,112,97,113,117,101]⟩:=fun k=>h1 (sB_inj.1 (show sB w=sB opqW from k))
    subst hB
    (refine TE.drawK (fun _=>false) (by rfl) (by rfl) (by rfl) ?_)
    refine wc ?_
    all_goals first|((refine TE.ret' io rfl tysOk (()) ?_ rfl (by rfl) ?_;all_goals (try (first|exact trivial|((with_reducible refine AllP.go ?_);dsimp only [AllP,appP];repeat' (first|refine And.intro ?_ ?_|exact zz)))));done)|(exfalso;omega)|(exact absurd (by assumption) h5)|skip
theorem treeO_c (l:List Bn) (hl:l.length≤1000000) (hx:∀ x∈l,lenN x.nd):Con Tryz.prog 22 [.o (.own 0)] [.own 0 37 10 (bnC l)] 1 1 U (fun _=>.o (.ro 8 (l.map (·.nd)).length (ndC (l.map (·.nd))).cell)) (fun _=>[.own 0 37 10 (bnC l)]):=by
 refine con_of Tryz.func22 rfl (by kernel_rfl) Tryz.ntmps22 rfl (by first | exact Nat.zero_le _ | decide) (fun _=>⟨rfl,rfl⟩) fun w S ν=>?_
 have hbn:(bnC l).n=l.length:=rfl
 refine wa ?_
 (refine TE.only [11,10,9,3,0] (by rfl) ?_)
 refine TE.loopG (fun q:Nat=>q≤l.length) (fun q=>[(11,.o (.c (.int .i64 q))),(3,.o (.own 1))]) [1] (fun q=>[.own 1 53 8 (ndC ((l.take q).map (·.nd)))]) (fun q=>l.length - q) 0 (by rfl) (Nat.zero_le _) ?_ ?_
 ·(refine Ent.of rfl rfl (by rfl) ?_;(try (first|exact trivial|((with_reducible refine AllP.go ?_);dsimp only [AllP,appP];repeat' (first|refine And.intro ?_ ?_|exact zz)))))
  exact LeDC.nil rfl rfl
 intro q hq
 have hn:(ndC ((l.take q).map (·.nd))).n=q:=by show ((l.take q).map (·.nd)).length=q;rw [List.length_map,List.length_take];omega
 have hn2:(l.take q).length=q:=by rw [List.length_take];omega
 by_cases hlt:q<l.length
 ·have hxq:=hx _ (getD_mem (l:=l) (d:=b0) hlt)
  refine wa ?_
  refine cw (plain_c (l.getD q b0) hxq) ?_
  intro _ _
  refine wb ?_
  refine TE.again' (q+1) (by omega) (by omega) ?_
  (refine Ent.of rfl rfl (by rfl) ?_;(try (first|exact trivial|((with_reducible refine AllP.go ?_);dsimp only [AllP,appP];repeat' (first|refine And.intro ?_ ?_|exact zz)))))
  exact listC_snoc _ (map_take hlt) (nd_row _)
 ·obtain rfl:q=l.length:=by omega
  refine wa ?_
  (refine TE.freezeN 1 (by rfl) (by rfl) ?_)
  (refine TE.ret' io rfl tysOk (()) ?_ rfl (by rfl) ?_;all_goals (try (first|exact trivial|((with_reducible refine AllP.go ?_);dsimp only [AllP,appP];repeat' (first|refine And.intro ?_ ?_|exact zz)))))
  rw [List.take_length]
  exact LeD.refl
theorem bn_setP {l:List Bn} {i:Nat} {d:DC} {o:Bool} (hi:i<l.length) (h:LeX d (bnR { l.getD i b0 with opq:=o } 8)):LeDC 10 (setC (bnC l) i 8 d) (bnC (l.set i { l.getD i b0 with opq:=o })):=by
 refine ⟨(List.length_set ..).symm,fun a j ha hj=>?_⟩
 show LeX (if a=i∧j=8 then d else bnR (l.getD a b0) j) (bnR ((l.set i { l.getD i b0 with opq:=o }).getD a b0) j)
 rw [getD_set hi]
 by_cases e:a=i
 ·subst e
  rw [if_pos rfl]
  by_cases e2:j=8
  ·subst e2
   rw [if_pos ⟨rfl,rfl⟩]
   exact h
  ·rw [if_neg (fun k=>e2 k.2)]
   refine LeX.of_eq ?_
   match j,hj,e2 with
   | 0,_,_=>rfl
   | 1,_,_=>rfl
   | 2,_,_=>rfl
   | 3,_,_=>rfl
   | 4,_,_=>rfl
   | 5,_,_=>rfl
   | 6,_,_=>rfl
   | 7,_,_=>rfl
   | 8,_,h=>exact absurd rfl h
   | 9,_,_=>rfl
   | j+10,h,_=>omega
 ·rw [if_neg (fun k=>e k.1),if_neg e]
  exact LeX.of_eq rfl
def setW (b:List Bn) (n:Nat) (w:Bs) (r:List Fld):Option (List Bn×Nat):=
 if w=opqW then (match r with
  | []=>some (b.set n { b.getD n b0 with opq:=true },n)
  | _=>none)
 else if w=redW then (match r with
  | [(q,true)]=>if (pparseE q).2≠0∨(pparseE q).1=[] then none else some (b.set n { b.getD n b0 with red:=(pparseE q).1 },n)
  | _=>none)
 else none
theorem setF_eq (b:List Bn) (w p:Bs) (r:List Fld) (last:Int):setF b ((w,false) :: (p,true) :: r) last=if (pparseE p).2≠0∨(findE (nds b) (pparseE p).1).2≠0∨(findE (nds b) (pparseE p).1).1≤last∨(b.getD (findE (nds b) (pparseE p).1).1.toNat b0).nd.kind≠1 then none else setW b (findE (nds b) (pparseE p).1).1.toNat w r:=rfl
theorem setb_c (m:Int) (te:TypeId) (pe:Value) (b:List Bn) (s:Bs) (last:Int) (hb:b.length≤1000000) (hx:∀ x∈b,okB x) (h0:0<b.length) (hl:s.length≤900000) (hlo : -1≤last):Con Tryz.prog 39 [.o (.own 4),.o (.c (.string (sB s))),.o (.c (.int .i64 last))] (glC m te pe++[.own 4 37 10 (bnC b)]) 5 5 U (fun _=>.o (.c (.int .i64 (match setS b s last with | none=>-1 | some x=>(x.2:Int))))) (fun _=>glC m te pe++[.own 4 37 10 (bnC (match setS b s last with | none=>b | some x=>x.1))]):=by
 refine con_of Tryz.func39 rfl (by kernel_rfl) Tryz.ntmps39 rfl (by first | exact Nat.zero_le _ | decide) (fun _=>⟨rfl,rfl⟩) fun w S ν=>?_
 have hmk:=mark_c m te pe s (by omega)
 obtain ⟨h64,h2000⟩:=split_fine s
 have hno:=set_mark (b:=b) (s:=s) (last:=last)
 have hbn:(bnC b).n=b.length:=rfl
 by_cases hm:isMark s=true
 rotate_left
 ·rw [Bool.not_eq_true] at hm
  rw [hm] at hmk
  rw [hno hm]
  refine wa ?_
  refine cw (hmk) ?_
  intro _ _
  refine wb ?_
  exact po
 rw [hm] at hmk
 obtain ⟨w,t,hft,hw⟩:∃ w t,(splitI s).1=(w,false) :: t∧(w=opqW∨w=redW):=by
  unfold isMark at hm
  split at hm
  ·rename_i w t e;exact ⟨w,t,e,of_decide_eq_true hm⟩
  ·cases hm
 have hS:setS b s last=setF b ((w,false) :: t) last:=by unfold setS;rw [hft]
 rw [hft] at hmk h64 h2000
 rw [hS]
 clear hS hno hft hm
 refine wa ?_
 refine cw (hmk) ?_
 intro _ _
 match t,h64,h2000 with
 | [],_,_=>
  refine wb ?_
  exact po
 | (p,false) :: r,h64,_=>
  simp only [List.length_cons] at h64
  refine wb ?_
  all_goals first | (exfalso;omega) | skip
  all_goals exact po
 | (p,true) :: r,h64,h2000=>
  have hpz:p.length≤2000:=h2000 (p,true) (by simp)
  have hpp:=pParse_c m te pe p (by omega)
  obtain ⟨pa,pe2,hpe⟩:∃ pa pe2,pparseE p=(pa,pe2):=⟨_,_,rfl⟩
  have hpo:=pparse_ok p
  rw [hpe] at hpp hpo
  dsimp only at hpo
  have hF:=setF_eq b w p r last
  rw [hpe] at hF
  dsimp only at hF
  rw [hF]
  have hg1:(((w,false) :: (p,true) :: r).getD (Int.toNat 1) ([],false))=(p,true):=rfl
  simp only [List.length_cons] at h64
  refine wb ?_
  refine cw (hpp) ?_
  intro _ _
  by_cases h1:pe2≠0
  ·rw [if_pos (.inl h1)]
   refine wb ?_
   exact po
  have hz2:pe2=0:=Decidable.not_not.1 h1
  have hpo2:=pcheck_iff.1 hpo.1
  have hti:(nds b).length=b.length:=List.length_map ..
  have hto:=treeO_c b hb fun x h=>(hx x h).1.1
  have hfi:=tFind_c (nds b) pa (by omega) (okn_nds hx) ⟨by omega,fun x h=>by have:=(name_size (hpo2.2 x h)).1;omega⟩
  have hfo:=findE_ok (l:=nds b) (p:=pa)
  obtain ⟨z,fe2,hfe⟩:∃ z fe2,findE (nds b) pa=(z,fe2):=⟨_,_,rfl⟩
  rw [hfe] at hfi hfo
  rw [hfe]
  dsimp only at hfo⊢
  refine wb ?_
  refine cw (hto) ?_
  intro _ _
  ((refine rn ?_ ?_);try (with_reducible refine AllP.go ?_;first|exact og|((try simp only [OS]);repeat' (first|exact oj|refine And.intro ?_ ?_))))
  refine cw (hfi) ?_
  intro _ _
  by_cases h2:fe2≠0
  ·rw [if_pos (.inr (.inl h2))]
   refine wb ?_
   exact po
  obtain ⟨fz1,fz2,_⟩:=hfo (Decidable.not_not.1 h2)
  obtain ⟨k,rfl⟩:=Int.eq_ofNat_of_zero_le fz1
  by_cases h3:(k:Int)≤last
  ·rw [if_pos (.inr (.inr (.inl h3)))]
   refine wb ?_
   exact po
  have hkl:k<b.length:=by omega
  rw [Int.toNat_natCast]
  by_cases h4:(b.getD k b0).nd.kind≠1
  ·rw [if_pos (.inr (.inr (.inr h4)))]
   refine wb ?_
   exact po
  rw [if_neg (fun e=>e.elim h1 (fun e=>e.elim h2 (fun e=>e.elim h3 h4)))]
  have hne:¬ sB redW=⟨#[111,112,97,113,117,101]⟩:=fun e=>absurd (sB_inj.1 (show sB redW=sB opqW from e)) (by decide)
  have hne2:¬ sB opqW=⟨#[114,101,100,105,114,101,99,116]⟩:=fun e=>absurd (sB_inj.1 (show sB opqW=sB redW from e)) (by decide)
  rcases hw with hw | hw
  ·subst hw
   match r,h64,h2000 with
   | [],_,_=>
    have hl2:((opqW,false) :: (p,true) :: ([]:List Fld)).length=2:=rfl
    rw [show setW b k opqW []=some (b.set k { b.getD k b0 with opq:=true },k) from rfl]
    refine wb ?_
    (refine TE.ret' io rfl tysOk (()) ?_ rfl (by rfl) ?_;all_goals (try (first|exact trivial|((with_reducible refine AllP.go ?_);dsimp only [AllP,appP];repeat' (first|refine And.intro ?_ ?_|exact zz)))))
    exact bn_setP hkl (LeX.of_eq rfl)
   | x :: r,h64,_=>
    have hl2:((opqW,false) :: (p,true) :: x :: r).length=r.length+3:=rfl
    rw [show setW b k opqW (x :: r)=none from rfl]
    refine wb ?_
    all_goals exact po
  ·subst hw
   match r,h64,h2000 with
   | [],_,_=>
    have hl2:((redW,false) :: (p,true) :: ([]:List Fld)).length=2:=rfl
    rw [show setW b k redW []=none from rfl]
    refine wb ?_
    all_goals exact po
   | x :: y :: r,h64,_=>
    have hl2:((redW,false) :: (p,true) :: x :: y :: r).length=r.length+4:=rfl
    rw [show setW b k redW (x :: y :: r)=none by obtain ⟨x1,x2⟩:=x;cases x2<;>rfl]
    refine wb ?_
    all_goals exact po
   | [(q,false)],_,_=>
    have hl2:((redW,false) :: (p,true) :: [(q,false)]).length=3:=rfl
    rw [show setW b k redW [(q,false)]=none from rfl]
    refine wb ?_
    all_goals exact po
   | [(q,true)],_,h2000=>
    have hl2:((redW,false) :: (p,true) :: [(q,true)]).length=3:=rfl
    have hqz:q.length≤2000:=h2000 (q,true) (by simp)
    have hqp:=pParse_c m te pe q (by omega)
    rw [show setW b k redW [(q,true)]=if (pparseE q).2≠0∨(pparseE q).1=[] then none else some (b.set k { b.getD k b0 with red:=(pparseE q).1 },k) from rfl]
    generalize pparseE q=x at *
    obtain ⟨dst,e3⟩:=x
    dsimp only at hqp⊢
    refine wb ?_
    refine cw (hqp) ?_
    intro _ _
    by_cases g1:e3≠0
    ·rw [if_pos (.inl g1)]
     refine wb ?_
     exact po
    by_cases g2:dst=[]
    ·rw [if_pos (.inr g2)]
     have g3:dst.length=0:=by rw [g2];rfl
     refine wb ?_
     exact po
    ·rw [if_neg (fun e=>e.elim g1 g2)]
     have g3:0<dst.length:=List.length_pos_iff.2 g2
     refine wb ?_
     (refine TE.ret' io rfl tysOk (()) ?_ rfl (by rfl) ?_;all_goals (try (first|exact trivial|((with_reducible refine AllP.go ?_);dsimp only [AllP,appP];repeat' (first|refine And.intro ?_ ?_|exact zz)))))
     exact bn_setR hkl (LeX.of_eq rfl)
theorem rmark_c (s:Bs) (hl:s.length≤900000):Con Tryz.prog 41 [.o (.c (.string (sB s)))] [] 0 0 U (fun _=>.o (.c (.bool (isMark s)))) G0:=by
 refine con_of Tryz.func41 rfl (by kernel_rfl) Tryz.ntmps41 rfl (by first | exact Nat.zero_le _ | decide) (fun _=>⟨rfl,rfl⟩) fun w S ν=>?_
 have hsp:=rSplit_c s (by omega)
 obtain ⟨h64,h2000⟩:=split_fine s
 have hse:=split_err (s:=s)
 have hM:isMark s=match (splitI s).1 with
  | (w,false) :: _=>decide (w=opqW∨w=redW)
  | _=>false:=rfl
 obtain ⟨B,hB⟩:∃ B,B=isMark s:=⟨_,rfl⟩
 rw [← hB]
 rw [hM] at hB
 clear hM
 generalize splitI s=x at *
 obtain ⟨fs,e⟩:=x
 dsimp only at *
 refine wa ?_
 refine cw (hsp) ?_
 intro _ _
 match fs,h64,h2000,hse,hB with
 | [],_,_,_,hB=>
  have hB:B=false:=hB
  subst hB
  ((refine rn ?_ ?_);(repeat' (first|(with_reducible refine AllP.go ?_;first|exact og|((try simp only [OS]);repeat' (first|exact oj|refine And.intro ?_ ?_)))|(refine rg ?_ ?_)|(with_reducible first|refine stp ?_|refine tD rfl ?_)|refine ct ?_|refine cf ?_|((first|refine gs ?_ ?_|refine gl ?_ ?_|refine gc ?_ ?_)<;>intro h<;>(try simp only [NS] at h)<;>(try exact xf)<;>(try refine rn ?_ ?_)))))
  all_goals exact po
 | (w,true) :: t,h64,_,hse,hB=>
  have hB:B=false:=hB
  have he:e=0:=Decidable.byContradiction fun k=>nomatch hse k
  have hlp:0<((w,true) :: t).length:=Nat.succ_pos _
  subst hB he
  refine wb ?_
  all_goals exact po
 | (w,false) :: t,h64,_,hse,hB=>
  have hB:B=decide (w=opqW∨w=redW):=hB
  have he:e=0:=Decidable.byContradiction fun k=>nomatch hse k
  have hlp:0<((w,false) :: t).length:=Nat.succ_pos _
  subst he
  by_cases h1:w=opqW
  ·rw [decide_eq_true (.inl h1)] at hB
   subst hB h1
   refine wb ?_
   all_goals first|((refine TE.ret' io rfl tysOk (()) ?_ rfl (by rfl) ?_;all_goals (try (first|exact trivial|((with_reducible refine AllP.go ?_);dsimp only [AllP,appP];repeat' (first|refine And.intro ?_ ?_|exact zz)))));done)|(exfalso;omega)|skip
  ·by_cases h2:w=redW
   ·rw [decide_eq_true (.inr h2)] at hB
    subst hB h2
    ((refine rn ?_ ?_);(repeat' (first|(with_reducible refine AllP.go ?_;first|exact og|((try simp only [OS]);repeat' (first|exact oj|refine And.intro ?_ ?_)))|(refine rg ?_ ?_)|(with_reducible first|refine stp ?_|refine tD rfl ?_)|refine ct ?_|refine cf ?_|((first|refine gs ?_ ?_|refine gl ?_ ?_|refine gc ?_ ?_)<;>intro h<;>(try simp only [NS] at h)<;>(try exact xf)<;>(try refine rn ?_ ?_)))))
    all_goals first|((refine TE.ret' io rfl tysOk (()) ?_ rfl (by rfl) ?_;all_goals (try (first|exact trivial|((with_reducible refine AllP.go ?_);dsimp only [AllP,appP];repeat' (first|refine And.intro ?_ ?_|exact zz)))));done)|(exfalso;omega)|skip
   ·rw [decide_eq_false fun k=>k.elim h1 h2] at hB
    have h4:decide (sB w=⟨#[114,101,100,105,114,101,99,116]⟩)=false:=decide_eq_false fun k=>h2 (sB_inj.1 (show sB w=sB redW from k))
    have h5:¬ sB w=⟨#[111,112,97,113,117,101]⟩:=fun k=>h1 (sB_inj.1 (show sB w=sB opqW from k))
    subst hB
    refine wb ?_
    all_goals first|((refine TE.ret' io rfl tysOk (()) ?_ rfl (by rfl) ?_;all_goals (try (first|exact trivial|((with_reducible refine AllP.go ?_);dsimp only [AllP,appP];repeat' (first|refine And.intro ?_ ?_|exact zz)))));done)|(exfalso;omega)|(exact absurd (by assumption) h5)|skip
theorem rtreeO_c (l:List Bn) (hl:l.length≤1000000) (hx:∀ x∈l,lenN x.nd):Con Tryz.prog 26 [.o (.own 0)] [.own 0 37 10 (bnC l)] 1 1 U (fun _=>.o (.ro 8 (l.map (·.nd)).length (ndC (l.map (·.nd))).cell)) (fun _=>[.own 0 37 10 (bnC l)]):=by
 refine con_of Tryz.func26 rfl (by kernel_rfl) Tryz.ntmps26 rfl (by first | exact Nat.zero_le _ | decide) (fun _=>⟨rfl,rfl⟩) fun w S ν=>?_
 have hbn:(bnC l).n=l.length:=rfl
 refine wa ?_
 refine TE.nilOwn 3 53 8 (by rfl) ?_
 refine TE.loopG (fun q:Nat=>q≤l.length) (fun q=>[(4,.o (.c (.int .i64 q))),(3,.o (.own 1))]) [1] (fun q=>[.own 1 53 8 (ndC ((l.take q).map (·.nd)))]) (fun q=>l.length - q) 0 (by rfl) (Nat.zero_le _) ?_ ?_
 ·(refine Ent.of rfl rfl (by rfl) ?_;(try (first|exact trivial|((with_reducible refine AllP.go ?_);dsimp only [AllP,appP];repeat' (first|refine And.intro ?_ ?_|exact zz)))))
  exact LeDC.nil rfl rfl
 intro q hq
 have hn:(ndC ((l.take q).map (·.nd))).n=q:=by show ((l.take q).map (·.nd)).length=q;rw [List.length_map,List.length_take];omega
 have hn2:(l.take q).length=q:=by rw [List.length_take];omega
 by_cases hlt:q<l.length
 ·have hxq:=hx _ (getD_mem (l:=l) (d:=b0) hlt)
  refine wa ?_
  refine cw (node_c (l.getD q b0) hxq) ?_
  intro _ _
  refine wb ?_
  refine TE.again' (q+1) (by omega) (by omega) ?_
  (refine Ent.of rfl rfl (by rfl) ?_;(try (first|exact trivial|((with_reducible refine AllP.go ?_);dsimp only [AllP,appP];repeat' (first|refine And.intro ?_ ?_|exact zz)))))
  exact listC_snoc _ (map_take hlt) (nd_row _)
 ·obtain rfl:q=l.length:=by omega
  refine wa ?_
  (refine TE.freezeN 1 (by rfl) (by rfl) ?_)
  (refine TE.ret' io rfl tysOk (()) ?_ rfl (by rfl) ?_;all_goals (try (first|exact trivial|((with_reducible refine AllP.go ?_);dsimp only [AllP,appP];repeat' (first|refine And.intro ?_ ?_|exact zz)))))
  rw [List.take_length]
  exact LeD.refl
theorem rset_c (b:List Bn) (s:Bs) (last:Int) (hb:b.length≤1000000) (hx:∀ x∈b,okB x) (h0:0<b.length) (hl:s.length≤900000) (hlo : -1≤last):Con Tryz.prog 43 [.o (.own 0),.o (.c (.string (sB s))),.o (.c (.int .i64 last))] [.own 0 37 10 (bnC b)] 1 1 U (fun _=>.o (.c (.int .i64 (match setS b s last with | none=>-1 | some x=>(x.2:Int))))) (fun _=>[.own 0 37 10 (bnC (match setS b s last with | none=>b | some x=>x.1))]):=by
 refine con_of Tryz.func43 rfl (by kernel_rfl) Tryz.ntmps43 rfl (by first | exact Nat.zero_le _ | decide) (fun _=>⟨rfl,rfl⟩) fun w S ν=>?_
 have hmk:=rmark_c s (by omega)
 have hsp:=rSplit_c s (by omega)
 obtain ⟨h64,h2000⟩:=split_fine s
 have hse:=split_err (s:=s)
 have hno:=set_mark (b:=b) (s:=s) (last:=last)
 have hbn:(bnC b).n=b.length:=rfl
 by_cases hm:isMark s=true
 rotate_left
 ·rw [Bool.not_eq_true] at hm
  rw [hm] at hmk
  rw [hno hm]
  refine wa ?_
  refine cw (hsp) ?_
  intro _ _
  by_cases he:(splitI s).2=0
  ·rw [he]
   refine wb ?_
   refine cw (hmk) ?_
   intro _ _
   refine wb ?_
   exact po
  ·refine wb ?_
   exact po
 rw [hm] at hmk
 obtain ⟨w,t,hft,hw⟩:∃ w t,(splitI s).1=(w,false) :: t∧(w=opqW∨w=redW):=by
  unfold isMark at hm
  split at hm
  ·rename_i w t e;exact ⟨w,t,e,of_decide_eq_true hm⟩
  ·cases hm
 have he0:(splitI s).2=0:=Decidable.byContradiction fun h=>by have:=hse h;rw [hft] at this;cases this
 have hS:setS b s last=setF b ((w,false) :: t) last:=by unfold setS;rw [hft]
 rw [hft,he0] at hsp
 rw [hft] at h64 h2000
 rw [hS]
 clear hS hno hft hm hse he0
 refine wa ?_
 refine cw (hsp) ?_
 intro _ _
 refine wb ?_
 refine cw (hmk) ?_
 intro _ _
 match t,h64,h2000 with
 | [],_,_=>
  refine wb ?_
  exact po
 | (p,false) :: r,h64,_=>
  simp only [List.length_cons] at h64
  refine wb ?_
  all_goals first | (exfalso;omega) | skip
  all_goals exact po
 | (p,true) :: r,h64,h2000=>
  have hpz:p.length≤2000:=h2000 (p,true) (by simp)
  have hpp:=rpParse_c p (by omega)
  obtain ⟨pa,pe2,hpe⟩:∃ pa pe2,pparseE p=(pa,pe2):=⟨_,_,rfl⟩
  have hpo:=pparse_ok p
  rw [hpe] at hpp hpo
  dsimp only at hpo
  have hF:=setF_eq b w p r last
  rw [hpe] at hF
  dsimp only at hF
  rw [hF]
  have hg1:(((w,false) :: (p,true) :: r).getD (Int.toNat 1) ([],false))=(p,true):=rfl
  simp only [List.length_cons] at h64
  refine wb ?_
  refine cw (hpp) ?_
  intro _ _
  by_cases h1:pe2≠0
  ·rw [if_pos (.inl h1)]
   refine wb ?_
   exact po
  have hz2:pe2=0:=Decidable.not_not.1 h1
  have hpo2:=pcheck_iff.1 hpo.1
  have hti:(nds b).length=b.length:=List.length_map ..
  have hto:=rtreeO_c b hb fun x h=>(hx x h).1.1
  have hfi:=rFind_c (nds b) pa (by omega) (fun x h=>okn_nds hx x h) ⟨by omega,fun x h=>by have:=(name_size (hpo2.2 x h)).1;omega⟩
  have hfo:=findE_ok (l:=nds b) (p:=pa)
  obtain ⟨z,fe2,hfe⟩:∃ z fe2,findE (nds b) pa=(z,fe2):=⟨_,_,rfl⟩
  rw [hfe] at hfi hfo
  rw [hfe]
  dsimp only at hfo⊢
  refine wb ?_
  refine cw (hto) ?_
  intro _ _
  ((refine rn ?_ ?_);try (with_reducible refine AllP.go ?_;first|exact og|((try simp only [OS]);repeat' (first|exact oj|refine And.intro ?_ ?_))))
  refine cw (hfi) ?_
  intro _ _
  by_cases h2:fe2≠0
  ·rw [if_pos (.inr (.inl h2))]
   refine wb ?_
   exact po
  obtain ⟨fz1,fz2,_⟩:=hfo (Decidable.not_not.1 h2)
  obtain ⟨k,rfl⟩:=Int.eq_ofNat_of_zero_le fz1
  by_cases h3:(k:Int)≤last
  ·rw [if_pos (.inr (.inr (.inl h3)))]
   refine wb ?_
   exact po
  have hkl:k<b.length:=by omega
  rw [Int.toNat_natCast]
  by_cases h4:(b.getD k b0).nd.kind≠1
  ·rw [if_pos (.inr (.inr (.inr h4)))]
   refine wb ?_
   exact po
  rw [if_neg (fun e=>e.elim h1 (fun e=>e.elim h2 (fun e=>e.elim h3 h4)))]
  have hne:¬ sB redW=⟨#[111,112,97,113,117,101]⟩:=fun e=>absurd (sB_inj.1 (show sB redW=sB opqW from e)) (by decide)
  have hne2:¬ sB opqW=⟨#[114,101,100,105,114,101,99,116]⟩:=fun e=>absurd (sB_inj.1 (show sB opqW=sB redW from e)) (by decide)
  rcases hw with hw | hw
  ·subst hw
   match r,h64,h2000 with
   | [],_,_=>
    have hl2:((opqW,false) :: (p,true) :: ([]:List Fld)).length=2:=rfl
    rw [show setW b k opqW []=some (b.set k { b.getD k b0 with opq:=true },k) from rfl]
    refine wb ?_
    (refine TE.ret' io rfl tysOk (()) ?_ rfl (by rfl) ?_;all_goals (try (first|exact trivial|((with_reducible refine AllP.go ?_);dsimp only [AllP,appP];repeat' (first|refine And.intro ?_ ?_|exact zz)))))
    exact bn_setP hkl (LeX.of_eq rfl)
   | x :: r,h64,_=>
    have hl2:((opqW,false) :: (p,true) :: x :: r).length=r.length+3:=rfl
    rw [show setW b k opqW (x :: r)=none from rfl]
    refine wb ?_
    all_goals exact po
  ·subst hw
   match r,h64,h2000 with
   | [],_,_=>
    have hl2:((redW,false) :: (p,true) :: ([]:List Fld)).length=2:=rfl
    rw [show setW b k redW []=none from rfl]
    refine wb ?_
    all_goals exact po
   | x :: y :: r,h64,_=>
    have hl2:((redW,false) :: (p,true) :: x :: y :: r).length=r.length+4:=rfl
    rw [show setW b k redW (x :: y :: r)=none by obtain ⟨x1,x2⟩:=x;cases x2<;>rfl]
    refine wb ?_
    all_goals exact po
   | [(q,false)],_,_=>
    have hl2:((redW,false) :: (p,true) :: [(q,false)]).length=3:=rfl
    rw [show setW b k redW [(q,false)]=none from rfl]
    refine wb ?_
    all_goals exact po
   | [(q,true)],_,h2000=>
    have hl2:((redW,false) :: (p,true) :: [(q,true)]).length=3:=rfl
    have hqz:q.length≤2000:=h2000 (q,true) (by simp)
    have hqp:=rpParse_c q (by omega)
    rw [show setW b k redW [(q,true)]=if (pparseE q).2≠0∨(pparseE q).1=[] then none else some (b.set k { b.getD k b0 with red:=(pparseE q).1 },k) from rfl]
    generalize pparseE q=x at *
    obtain ⟨dst,e3⟩:=x
    dsimp only at hqp⊢
    refine wb ?_
    refine cw (hqp) ?_
    intro _ _
    by_cases g1:e3≠0
    ·rw [if_pos (.inl g1)]
     refine wb ?_
     exact po
    by_cases g2:dst=[]
    ·rw [if_pos (.inr g2)]
     have g3:dst.length=0:=by rw [g2];rfl
     refine wb ?_
     exact po
    ·rw [if_neg (fun e=>e.elim g1 g2)]
     have g3:0<dst.length:=List.length_pos_iff.2 g2
     refine wb ?_
     (refine TE.ret' io rfl tysOk (()) ?_ rfl (by rfl) ?_;all_goals (try (first|exact trivial|((with_reducible refine AllP.go ?_);dsimp only [AllP,appP];repeat' (first|refine And.intro ?_ ?_|exact zz)))))
     exact bn_setR hkl (LeX.of_eq rfl)
theorem strs_take (L:List Bs) {n:Nat} (h:n≤L.length):LeD 1 n (strsC L).cell (L.take n).length (strsC (L.take n)).cell:=
 ⟨by rw [List.length_take];omega,fun i j hi hj=>LeX.of_eq (by
  show strR' (L.getD i []) j=strR' ((L.take n).getD i []) j
  rw [getD_take hi])⟩
theorem markf_c (m:Int) (te:TypeId) (pe:Value) (s:Bs) (hl:s.length≤900000):Con Tryz.prog 35 [.o (.c (.string (sB s)))] (glC m te pe) 4 4 U (fun _=>.o (.c (.bool (isMark s)))) (fun _=>glC m te pe):=by
 refine con_of Tryz.func35 rfl (by kernel_rfl) Tryz.ntmps35 rfl (by first | exact Nat.zero_le _ | decide) (fun _=>⟨rfl,rfl⟩) fun w S ν=>?_
 refine wa ?_
 refine cw (mark_c m te pe s hl) ?_
 intro _ _
 refine wb ?_
 exact po
theorem idxm_c (m:Int) (te:TypeId) (pe:Value) (L:List Bs) (hl:L.length≤1000000) (hs:∀ s∈L,s.length≤900000):Con Tryz.prog 34 [.o (.ro 1 L.length (strsC L).cell),.o (.c (.func (.func 35) #[] #[]))] (glC m te pe) 4 4 (fun i:Int=>(i = -1∧manyP L=L.length)∨(0≤i∧i=manyP L∧manyP L<L.length)) (fun i=>.o (.c (.int .i64 i))) (fun _=>glC m te pe):=by
 refine con_of Tryz.func34 rfl (by kernel_rfl) Tryz.ntmps34 rfl (by first | exact Nat.zero_le _ | decide) (fun _=>⟨rfl,rfl⟩) fun w S ν=>?_
 refine wa ?_
 refine TE.loopG (fun q:Nat=>q≤L.length∧∀ j,j<q→isMark (L.getD j [])=false) (fun q=>[(8,.o (.c (.int .i64 q)))]) [] (fun _=>[]) (fun q=>L.length - q) 0 (by rfl) ⟨Nat.zero_le _,fun j h=>absurd h (Nat.not_lt_zero _)⟩ ?_ ?_
 ·exact ee
 rintro q ⟨hq,hg⟩
 by_cases hlt:q<L.length
 ·have hmk:=markf_c m te pe (L.getD q []) (hs _ (getD_mem hlt))
  refine wa ?_
  refine cw (hmk) ?_
  intro _ _
  by_cases hm:isMark (L.getD q [])=true
  ·rw [hm]
   refine wb ?_
   (refine TE.ret' io rfl tysOk ((q:Int)) ?_ rfl (by rfl) ?_;all_goals (try (first|exact trivial|((with_reducible refine AllP.go ?_);dsimp only [AllP,appP];repeat' (first|refine And.intro ?_ ?_|exact zz)))))
   ·refine .inr ⟨by omega,by rw [many_at hlt hg hm],by rw [many_at hlt hg hm];exact hlt⟩
  ·rw [Bool.not_eq_true] at hm
   rw [hm]
   refine wb ?_
   refine TE.again' (q+1) ⟨hlt,fun j hj=>?_⟩ (by omega) ?_
   ·rcases Nat.lt_or_ge j q with h | h
    ·exact hg j h
    ·obtain rfl:j=q:=by omega
     exact hm
   ·exact ee
 ·obtain rfl:q=L.length:=by omega
  refine wa ?_
  (refine TE.ret' io rfl tysOk ((-1:Int)) ?_ rfl (by rfl) ?_;all_goals (try (first|exact trivial|((with_reducible refine AllP.go ?_);dsimp only [AllP,appP];repeat' (first|refine And.intro ?_ ?_|exact zz)))))
  exact .inl ⟨rfl,many_none hg⟩
theorem getM_putM {z:Int} {v:List DC} (k:Int):∀ (es:List (Int×List DC)),getM (putM es z v) k=if k=z then some v else getM es k
 | []=>by
  show (if z=k then some v else none)=_
  by_cases h:k=z
  ·rw [if_pos h,if_pos h.symm]
  ·rw [if_neg h,if_neg (fun e=>h e.symm)];rfl
 | e :: r=>by
  have ih:=getM_putM (z:=z) (v:=v) k r
  show getM (if e.1=z then (z,v) :: r else e :: putM r z v) k=if k=z then some v else if e.1=k then some e.2 else getM r k
  by_cases h1:e.1=z
  ·rw [if_pos h1]
   show (if z=k then some v else getM r k)=_
   by_cases h:k=z
   ·rw [if_pos h.symm,if_pos h]
   ·rw [if_neg (fun e=>h e.symm),if_neg h,if_neg (fun e'=>h (e'.symm.trans h1))]
  ·rw [if_neg h1]
   show (if e.1=k then some e.2 else getM (putM r z v) k)=_
   rw [ih]
   by_cases h:k=z
   ·rw [if_neg (fun e'=>h1 (e'.trans h)),if_pos h,if_pos h]
   ·rw [if_neg h,if_neg h]
theorem checkB_at {b:List Bn} (hT:Tok (nds b)):∃ k:Nat,(checkB b).1=k∧k≤b.length:=by
 unfold checkB
 rw [if_neg (fun k=>k hT)]
 split
 ·rename_i i e h
  refine ⟨i,rfl,?_⟩
  have key:∀ (n i:Nat) (j:Nat) (e:Int),firstM b n i=some (j,e)→j<i+n:=by
   intro n
   induction n with
   | zero=>intro i j e h;cases h
   | succ n ih=>
    intro i j e h
    rw [firstM] at h
    split at h
    ·injection h with h
     injection h with h1 h2
     omega
    ·have:=ih _ _ _ h
     omega
  have:=key _ _ _ _ h
  omega
 ·exact ⟨0,rfl,Nat.zero_le _⟩
def whereOk (es:List (Int×List DC)) (W:List Int):Prop:=∀ k:Nat,getM es (k:Int)=if 0<W.getD k 0 then some [DC.c (.int .i64 (W.getD k 0))] else none
theorem where_set {es:List (Int×List DC)} {W:List Int} (h:whereOk es W) {n:Nat} (hn:n<W.length) {z:Int} (hz:0<z):whereOk (putM es (n:Int) [DC.c (.int .i64 z)]) (W.set n z):=fun k=>by
 rw [getM_putM,getD_set hn]
 by_cases e:k=n
 ·rw [if_pos (show (k:Int)=n by omega),if_pos e,if_pos hz]
 ·rw [if_neg (show ¬ (k:Int)=n by omega),if_neg e]
  exact h k
theorem bParse_c (m:Int) (te:TypeId) (pe:Value) (s:Bs) (hl:s.length≤900000):Con Tryz.prog 9 [.o (.c (.string (sB s)))] (glT m te pe) 5 5 U (fun _=>.t [.inl (.ro 10 (parseB s).1.length (bnC (parseB s).1).cell),.inl (.c (.int .i64 (parseB s).2.1)),.inl (.c (.int .i64 (parseB s).2.2))]) (fun _=>glT m te pe):=by
 refine con_of Tryz.func9 rfl (by kernel_rfl) Tryz.ntmps9 rfl (by first | exact Nat.zero_le _ | decide) (fun _=>⟨rfl,rfl⟩) fun w S ν=>?_
 have hln:=Lines_c m te pe s (by omega)
 have hll:=lines_len s
 have hls:=lines_size s
 refine wa ?_
 refine cw (hln) ?_
 intro _ _
 by_cases h1:(linesI s).2≠0
 ·rw [show parseB s=([],0,(linesI s).2) from if_pos h1]
  refine wb ?_
  exact po
 have hlt:=lines_text (Decidable.not_not.1 h1)
 have hE:parseB s=if (parseT (headT ((linesI s).1.take (manyP (linesI s).1)))).2.2≠0 then ([],(parseT (headT ((linesI s).1.take (manyP (linesI s).1)))).2) else
  match setsP (manyP (linesI s).1) ((parseT (headT ((linesI s).1.take (manyP (linesI s).1)))).1.map bare) ((parseT (headT ((linesI s).1.take (manyP (linesI s).1)))).1.map fun _=>0) (-1) ((linesI s).1.drop (manyP (linesI s).1)) with
  | .inr k=>([],(k:Int),6)
  | .inl (b,W)=>if (checkB b).2≠0 then ([],if 0<W.getD (checkB b).1.toNat 0 then W.getD (checkB b).1.toNat 0 else (checkB b).1+1,(checkB b).2) else (b,0,0):=if_neg h1
 have h1:=Decidable.not_not.1 h1
 obtain ⟨L,hL⟩:∃ L,L=(linesI s).1:=⟨_,rfl⟩
 rw [← hL] at hE hll hls hlt⊢
 have hix:=idxm_c m te pe L (by omega) (fun x h=>by have:=hls x h;omega)
 have hml:=many_le L
 refine wb ?_
 refine cw (hix) ?_
 intro i hi
 ((refine rn ?_ ?_);try (with_reducible refine AllP.go ?_;first|exact og|((try simp only [OS]);repeat' (first|exact oj|refine And.intro ?_ ?_))))
 refine TE.done (TE.thenN ?_)
 (refine TE.seqM (ι:=Unit) (fun _=>True) (fun _=>⟨[(6,.o (.c (.int .i64 (manyP L)))),(5,.o (.ro 1 L.length (strsC L).cell)),(2,.o (.c (.slice none 0 0)))],glT m te pe,5⟩) ?_ fun _ _=>?_)
 ·rcases hi with ⟨rfl,h2⟩ | ⟨h2,h3,h4⟩
  ·refine wa ?_
   rw [h2]
   exact aa
  ·refine wa ?_
   rw [← h3]
   exact aa
 clear hi i
 obtain ⟨M,hM⟩:∃ M,M=manyP L:=⟨_,rfl⟩
 rw [← hM] at hE hml⊢
 have hhl:=headT_take_le L M
 rw [hlt] at hhl
 have hjl:=headT_join (L.take M)
 (refine TE.seq ?_;(refine TE.rgo tysOk rfl (by rfl) (by (first | exact trivial | exact fun i _=>⟨_,rfl⟩ | ((try simp only [OS]);repeat' (first | omega | exact fun i _=>⟨_,rfl⟩ | refine And.intro ?_ ?_)))) ?_);refine TE.done ?_;refine TE.thenN ?_)
 (refine TE.seqM (ι:=Unit) (fun _=>True) (fun _=>⟨[(7,.o (.c (.string (sB (headT (L.take M)))))),(6,.o (.c (.int .i64 M))),(5,.o (.ro 1 L.length (strsC L).cell)),(2,.o (.c (.slice none 0 0)))],glT m te pe,5⟩) ?_ fun _ _=>?_)
 ·rcases Nat.eq_zero_or_pos M with h0 | h0
  ·rw [h0]
   refine wa ?_
   exact aa
  ·have hne:L.take M≠[]:=fun e=>by
    have:=congrArg List.length e
    rw [List.length_take,List.length_nil] at this
    omega
   have hjl:=hjl hne
   have hjz:(Lib.join (L.take M) [10]).length≤900000:=by
    have:=congrArg List.length hjl
    rw [List.length_append] at this
    omega
   have hj:=join_c (L.take M) [10] (by rw [List.length_take];omega) (by omega)
   have hz:=sB_size (Lib.join (L.take M) [10])
   have hs1:(⟨#[10]⟩:ByteArray).size=1:=rfl
   refine wa ?_
   refine TE.callW (hj) rfl (by rfl) (by rfl) rfl (by rfl) ?_ ?_
   ·refine AllP.go ?_
    exact ⟨rfl,strs_take L hml,rfl⟩
   intro _ _
   refine wb ?_
   rw [← hjl,← sB_app]
   exact aa
 generalize headT (L.take M)=H at *
 have htp:=tParse_c m te pe H (by omega)
 have htf:=parseT_fine H
 obtain ⟨t,n1,e1,hte⟩:∃ t n1 e1,parseT H=(t,n1,e1):=⟨_,_,_,rfl⟩
 rw [hte] at hE htp htf
 dsimp only at hE htf
 refine wa ?_
 refine cw (htp) ?_
 intro _ _
 by_cases h2:e1≠0
 ·rw [if_pos h2] at hE
  rw [hE]
  refine wb ?_
  exact po
 rw [if_neg h2] at hE
 have hT:Tok t:=htf.2.1 (Decidable.not_not.1 h2)
 have htl:=htf.2.2
 refine wb ?_
 refine TE.nilOwn 2 37 10 (by rfl) ?_
 (refine TE.only [53,52,51,6,5,2] (by rfl) ?_)
 refine TE.loopG (fun q:Nat=>q≤t.length) (fun q=>[(53,.o (.c (.int .i64 q))),(2,.o (.own 5))]) [5] (fun q=>[.own 5 37 10 (bnC ((t.take q).map bare))]) (fun q=>t.length - q) 0 (by rfl) (Nat.zero_le _) ?_ ?_
 ·(refine Ent.of rfl rfl (by rfl) ?_;(try (first|exact trivial|((with_reducible refine AllP.go ?_);dsimp only [AllP,appP];repeat' (first|refine And.intro ?_ ?_|exact zz)))))
  exact LeDC.nil rfl rfl
 intro q hq
 have hql:(t.take q).length=q:=by rw [List.length_take];omega
 by_cases hqt:q<t.length
 ·refine wa ?_
  refine TE.again' (q+1) hqt (by omega) ?_
  (refine Ent.of rfl rfl (by rfl) ?_;(try (first|exact trivial|((with_reducible refine AllP.go ?_);dsimp only [AllP,appP];repeat' (first|refine And.intro ?_ ?_|exact zz)))))
  exact listC_snocX (bare (t.getD q n0)) (by rw [List.take_add_one,List.map_append,List.getD_eq_getElem?_getD,List.getElem?_eq_getElem hqt];rfl) (bn_row (LeX.of_eq rfl) (LeX.of_eq rfl) (LeX.of_eq rfl) (LeX.of_eq rfl) (LeX.of_eq rfl) (LeX.of_eq rfl) (LeX.of_eq rfl) (LeX.of_eq rfl) (LeX.of_eq rfl) (LeX.nil rfl))
 obtain rfl:q=t.length:=by omega
 rw [List.take_length]
 clear hql hq hqt
 obtain ⟨b1,hb1⟩:∃ b1,b1=t.map bare:=⟨_,rfl⟩
 rw [← hb1] at hE⊢
 have hb1n:nds b1=t:=by rw [hb1];unfold nds;rw [List.map_map];exact List.map_id _
 have hb1l:b1.length=t.length:=by rw [hb1,List.length_map]
 refine wa ?_
 (refine TE.step rfl rfl rfl (fun _ h=>nomatch h) (m_mkMp (.mp false []) (by first | exact .inl ⟨_,rfl⟩ | exact .inr ⟨_,rfl⟩) rfl) ?_;rintro _ rfl)
 ((refine rn ?_ ?_);try (with_reducible refine AllP.go ?_;first|exact og|((try simp only [OS]);repeat' (first|exact oj|refine And.intro ?_ ?_))))
 (repeat (with_reducible first|refine stp ?_|refine tD rfl ?_))
 refine wa ?_
 obtain ⟨R,hR⟩:∃ R,R=setsP M b1 (t.map fun _=>0) (-1) (L.drop M):=⟨_,rfl⟩
 rw [← hR] at hE
 have hst:SetsAt L R b1 (M+0) b1 (t.map fun _=>0) (-1):=by
  rw [hb1] at hR⊢
  exact sets_start hml hR.symm
 have hok:∀ (b:List Bn),nds b=nds b1→(∀ x∈b,pcheckE x.red=0)→∀ x∈b,okB x:=fun b hb hr x hx=>by
  have h3:x.nd∈t:=by rw [← hb1n,← hb];exact List.mem_map.2 ⟨x,hx,rfl⟩
  have h4:=htf.1 _ h3
  have h5:=pcheck_iff.1 (hr x hx)
  exact ⟨⟨by have:=h4.1;omega,by have:=h4.2.1;omega,by have:=h4.2.2;omega⟩,by omega,fun s hs=>by have:=(name_size (h5.2 s hs)).1;omega⟩
 have htp0:=(tok_node hT).1
 (refine TE.only [83,82,81,13,12,6,2] (by rfl) ?_)
 refine TE.loopG (fun q:Nat×List Bn×List Int×Int×List (Int×List DC)=>SetsAt L R b1 (M+q.1) q.2.1 q.2.2.1 q.2.2.2.1∧whereOk q.2.2.2.2 q.2.2.1) (fun q=>[(83,.o (.c (.int .i64 q.1))),(13,.o (.c (.int .i64 q.2.2.2.1))),(2,.o (.own 5))]) [5,6] (fun q=>[.own 5 37 10 (bnC q.2.1),.obj 6 (.mp false q.2.2.2.2)]) (fun q=>L.length - (M+q.1)) (0,b1,t.map fun _=>0,-1,[]) (by rfl) ⟨hst,fun k=>?_⟩ ?_ ?_
 ·have:=hst.free k (by omega)
  dsimp only
  rw [this];rfl
 ·exact ee
 rintro ⟨j,b,W,last,es⟩ ⟨g,gw⟩
 have g1:M+j≤L.length:=g.le
 have g2:nds b=nds b1:=g.nds
 have g3 : -1≤last:=g.lo
 have g4:W.length=b.length:=g.len
 have g5:last<b.length:=g.hi
 have hbl:b.length=b1.length:=by have:=congrArg List.length g2;unfold nds at this;rwa [List.length_map,List.length_map] at this
 have hbk:=hok b g2 g.red
 dsimp only at gw
 by_cases hjl:M+j<L.length
 ·have hsz:=hls _ (getD_mem (l:=L) (d:=[]) hjl)
  have hsb:=setb_c m te pe b (L.getD (M+j) []) last (by omega) hbk (by omega) (by omega) g3
  cases hS:setS b (L.getD (M+j) []) last with
  | none=>
   rw [hS] at hsb
   dsimp only at hsb
   have hRR:=sets_bad g hjl hS
   rw [hRR] at hE
   dsimp only at hE
   rw [hE]
   refine wa ?_
   refine cw (hsb) ?_
   intro _ _
   refine wb ?_
   exact po
  | some x=>
   obtain ⟨c,n⟩:=x
   rw [hS] at hsb
   dsimp only at hsb
   have hso:=set_ok hS
   have hmo:=sets_more g hjl hS
   have hn:=hso.lt
   have hzz:((M+j:Nat):Int)+1=(M:Int)+(j:Int)+1:=by omega
   have hwo:=where_set gw (n:=n) (by omega) (z:=(M:Int)+(j:Int)+1) (by omega)
   rw [hzz] at hmo
   refine wa ?_
   refine cw (hsb) ?_
   intro _ _
   refine wb ?_
   (refine TE.step rfl rfl rfl (fun _ h=>nomatch h) (m_mpUp (mpI false) rfl rfl (Tryz.underlying80) (Tryz.underlying3) rfl rfl rfl rfl rfl) ?_;rintro _ rfl)
   refine wb ?_
   refine TE.again' (j+1,c,W.set n ((M:Int)+(j:Int)+1),(n:Int),putM es (n:Int) [DC.c (.int .i64 ((M:Int)+(j:Int)+1))]) ⟨hmo,hwo⟩ (by dsimp only;omega) ?_
   exact ee
 ·obtain hjj:M+j=L.length:=by omega
  have hRR:=sets_end g (by omega)
  rw [hRR] at hE
  dsimp only at hE
  have hTb:Tok (nds b):=by rw [g2,hb1n];exact hT
  obtain ⟨k,hk,hkl⟩:=checkB_at hTb
  refine wa ?_
  (refine TE.freezeN 5 (by rfl) (by rfl) ?_)
  refine cw (checkB_c b (by omega) hbk) ?_
  intro _ _
  by_cases h3:(checkB b).2≠0
  ·rw [if_pos h3,hk,Int.toNat_natCast] at hE
   have hgk:=gw k
   rw [← hk] at hgk
   by_cases h4:0<W.getD k 0
   ·rw [if_pos h4] at hE hgk
    rw [hE]
    refine wb ?_
    (refine TE.step rfl rfl rfl (fun _ h=>nomatch h) (m_mpGet2 (mpI false) rfl (Tryz.underlying80) (Tryz.underlying3) rfl rfl rfl (hgk) rfl) ?_;rintro _ rfl)
    refine wb ?_
    exact po
   ·rw [if_neg h4] at hE hgk
    rw [hE]
    refine wb ?_
    (refine TE.step rfl rfl rfl (fun _ h=>nomatch h) (m_mpNone2 tysOk (mpI false) rfl (Tryz.underlying80) (Tryz.underlying3) rfl rfl rfl (hgk) rfl rfl rfl) ?_;rintro _ rfl)
    refine wb ?_
    exact po
  ·rw [if_neg h3] at hE
   rw [hE]
   refine wb ?_
   exact po
theorem int_zero {n:Nat} {l:List Int} (h:l.length=n) (h0:∀ k,l.getD k 0=0):LeDC 1 (zeroC n [.int .i64 0]) (intC l):=
 ⟨h.symm,fun i j hi hj=>LeX.of_eq (by
  obtain rfl:j=0:=by omega
  show DC.c (.int .i64 0)=intR (l.getD i 0) 0
  rw [h0]
  rfl)⟩
theorem int_set {W:List Int} {k:Nat} {z:Int} (h:k<W.length):LeDC 1 (setC (intC W) k 0 (.c (.int .i64 z))) (intC (W.set k z)):=
 ⟨(List.length_set ..).symm,fun i j hi hj=>LeX.of_eq (by
   obtain rfl:j=0:=by omega
   show (if i=k∧0=0 then DC.c (.int .i64 z) else intR (W.getD i 0) 0)=intR ((W.set k z).getD i 0) 0
   rw [getD_set h]
   by_cases e:i=k
   ·rw [if_pos ⟨e,rfl⟩,if_pos e];rfl
   ·rw [if_neg (fun g=>e g.1),if_neg e])⟩
theorem checkB_in {b:List Bn} (hT:Tok (nds b)) (h:(checkB b).2≠0):∃ k:Nat,(checkB b).1=k∧k<b.length:=by
 unfold checkB at h⊢
 rw [if_neg (fun k=>k hT)] at h⊢
 split
 ·rename_i i e h
  refine ⟨i,rfl,?_⟩
  have key:∀ (n i:Nat) (j:Nat) (e:Int),firstM b n i=some (j,e)→j<i+n:=by
   intro n
   induction n with
   | zero=>intro i j e h;cases h
   | succ n ih=>
    intro i j e h
    rw [firstM] at h
    split at h
    ·injection h with h
     injection h with h1 h2
     omega
    ·have:=ih _ _ _ h
     omega
  have:=key _ _ _ _ h
  omega
 ·rename_i g
  rw [g] at h
  exact absurd rfl h
theorem rbParse_c (s:Bs) (hl:s.length≤900000):Con Tryz.prog 10 [.o (.c (.string (sB s)))] [] 0 0 U (fun _=>.t [.inl (.ro 10 (parseB s).1.length (bnC (parseB s).1).cell),.inl (.c (.int .i64 (parseB s).2.1)),.inl (.c (.int .i64 (parseB s).2.2))]) G0:=by
 refine con_of Tryz.func10 rfl (by kernel_rfl) Tryz.ntmps10 rfl (by first | exact Nat.zero_le _ | decide) (fun _=>⟨rfl,rfl⟩) fun w S ν=>?_
 have hln:=rLines_c s (by omega)
 have hll:=lines_len s
 have hls:=lines_size s
 refine wa ?_
 refine cw (hln) ?_
 intro _ _
 by_cases h1:(linesI s).2≠0
 ·rw [show parseB s=([],0,(linesI s).2) from if_pos h1]
  refine wb ?_
  exact po
 have hlt:=lines_text (Decidable.not_not.1 h1)
 have hE:parseB s=if (parseT (headT ((linesI s).1.take (manyP (linesI s).1)))).2.2≠0 then ([],(parseT (headT ((linesI s).1.take (manyP (linesI s).1)))).2) else
  match setsP (manyP (linesI s).1) ((parseT (headT ((linesI s).1.take (manyP (linesI s).1)))).1.map bare) ((parseT (headT ((linesI s).1.take (manyP (linesI s).1)))).1.map fun _=>0) (-1) ((linesI s).1.drop (manyP (linesI s).1)) with
  | .inr k=>([],(k:Int),6)
  | .inl (b,W)=>if (checkB b).2≠0 then ([],if 0<W.getD (checkB b).1.toNat 0 then W.getD (checkB b).1.toNat 0 else (checkB b).1+1,(checkB b).2) else (b,0,0):=if_neg h1
 have h1:=Decidable.not_not.1 h1
 obtain ⟨L,hL⟩:∃ L,L=(linesI s).1:=⟨_,rfl⟩
 rw [← hL] at hE hll hls hlt⊢
 have hml:=many_le L
 ((refine rn ?_ ?_);try (with_reducible refine AllP.go ?_;first|exact og|((try simp only [OS]);repeat' (first|exact oj|refine And.intro ?_ ?_))))
 refine TE.done (TE.thenN ?_)
 (refine TE.seqM (ι:=Unit) (fun _=>True) (fun _=>⟨[(5,.o (.ro 1 L.length (strsC L).cell))],[],0⟩) ?_ fun _ _=>?_)
 ·refine wa ?_
  exact aa
 (refine TE.seq ?_;(refine TE.rgo tysOk rfl (by rfl) (by (first | exact trivial | exact fun i _=>⟨_,rfl⟩ | ((try simp only [OS]);repeat' (first | omega | exact fun i _=>⟨_,rfl⟩ | refine And.intro ?_ ?_)))) ?_);refine TE.done ?_;refine TE.thenN ?_)
 (refine TE.seqM (ι:=Unit) (fun _=>True) (fun _=>⟨[(7,.o (.c (.int .i64 (manyP L)))),(5,.o (.ro 1 L.length (strsC L).cell))],[],0⟩) ?_ fun _ _=>?_)
 ·(repeat (with_reducible first|refine stp ?_|refine tD rfl ?_))
  refine TE.loopG (fun q:Nat=>q≤L.length∧∀ j,j<q→isMark (L.getD j [])=false) (fun q=>[(7,.o (.c (.int .i64 q)))]) [] (fun _=>[]) (fun q=>L.length - q) 0 (by rfl) ⟨Nat.zero_le _,fun j h=>absurd h (Nat.not_lt_zero _)⟩ ?_ ?_
  ·exact ee
  rintro q ⟨hq,hg⟩
  by_cases hlt2:q<L.length
  ·have hsz:=hls _ (getD_mem (l:=L) (d:=[]) hlt2)
   have hmk:=rmark_c (L.getD q []) (by omega)
   refine wa ?_
   refine cw (hmk) ?_
   intro _ _
   by_cases hm:isMark (L.getD q [])=true
   ·rw [hm,many_at hlt2 hg hm]
    refine wb ?_
    exact aa
   ·rw [Bool.not_eq_true] at hm
    rw [hm]
    refine wb ?_
    refine TE.again' (q+1) ⟨hlt2,fun j hj=>?_⟩ (by omega) ?_
    ·rcases Nat.lt_or_ge j q with h | h
     ·exact hg j h
     ·obtain rfl:j=q:=by omega
      exact hm
    ·exact ee
  ·obtain rfl:q=L.length:=by omega
   rw [many_none hg]
   refine wa ?_
   exact aa
 obtain ⟨M,hM⟩:∃ M,M=manyP L:=⟨_,rfl⟩
 rw [← hM] at hE hml⊢
 have hhl:=headT_take_le L M
 rw [hlt] at hhl
 refine wa ?_
 refine TE.loopG (fun q:Nat=>q≤M) (fun q=>[(9,.o (.c (.int .i64 q))),(8,.o (.c (.string (sB (headT (L.take q))))))]) [] (fun _=>[]) (fun q=>M - q) 0 (by rfl) (Nat.zero_le _) ?_ ?_
 ·rw [List.take_zero,show headT []=[] from rfl]
  exact ee
 intro q hq
 by_cases hqt:q<M
 ·have hhq:=headT_take_le L (q+1)
  rw [hlt,takeL (by omega),headT_snoc] at hhq
  simp only [List.length_append,List.length_cons,List.length_nil] at hhq
  have hs1:(⟨#[10]⟩:ByteArray).size=1:=rfl
  have hz1:=sB_size (headT (L.take q))
  have hz2:=sB_size (L.getD q [])
  have hz3:(sB (headT (L.take q))++sB (L.getD q [])).size=(headT (L.take q)).length+(L.getD q []).length:=by rw [ByteArray.size_append,hz1,hz2]
  refine wa ?_
  refine TE.again' (q+1) hqt (by omega) ?_
  rw [takeL (by omega),headT_snoc,← sB_app,← sB_app]
  exact ee
 obtain rfl:M=q:=by omega
 clear hq hqt
 generalize headT (L.take M)=H at *
 have htp:=rtParse_c H (by omega)
 have htf:=parseT_fine H
 obtain ⟨t,n1,e1,hte⟩:∃ t n1 e1,parseT H=(t,n1,e1):=⟨_,_,_,rfl⟩
 rw [hte] at hE htp htf
 dsimp only at hE htf
 refine wa ?_
 refine cw (htp) ?_
 intro _ _
 by_cases h2:e1≠0
 ·rw [if_pos h2] at hE
  rw [hE]
  refine wb ?_
  exact po
 rw [if_neg h2] at hE
 have hT:Tok t:=htf.2.1 (Decidable.not_not.1 h2)
 have htl:=htf.2.2
 refine wb ?_
 refine TE.nilOwn 12 37 10 (by rfl) ?_
 (refine TE.only [13,12,10,7,5] (by rfl) ?_)
 refine TE.loopG (fun q:Nat=>q≤t.length) (fun q=>[(13,.o (.c (.int .i64 q))),(12,.o (.own 0))]) [0] (fun q=>[.own 0 37 10 (bnC ((t.take q).map bare))]) (fun q=>t.length - q) 0 (by rfl) (Nat.zero_le _) ?_ ?_
 ·(refine Ent.of rfl rfl (by rfl) ?_;(try (first|exact trivial|((with_reducible refine AllP.go ?_);dsimp only [AllP,appP];repeat' (first|refine And.intro ?_ ?_|exact zz)))))
  exact LeDC.nil rfl rfl
 intro k hk
 have hql:(t.take k).length=k:=by rw [List.length_take];omega
 by_cases hkt:k<t.length
 ·refine wa ?_
  refine wg ?_
  all_goals first | omega | skip
  all_goals refine wa ?_
  all_goals refine TE.again' (k+1) hkt (by omega) ?_
  all_goals (refine Ent.of rfl rfl (by rfl) ?_;(try (first|exact trivial|((with_reducible refine AllP.go ?_);dsimp only [AllP,appP];repeat' (first|refine And.intro ?_ ?_|exact zz)))))
  all_goals exact listC_snocX (bare (t.getD k n0)) (by rw [List.take_add_one,List.map_append,List.getD_eq_getElem?_getD,List.getElem?_eq_getElem hkt];rfl) (bn_row (LeX.of_eq rfl) (LeX.of_eq rfl) (LeX.of_eq rfl) (LeX.of_eq rfl) (LeX.of_eq rfl) (LeX.of_eq rfl) (LeX.of_eq rfl) (LeX.of_eq rfl) (LeX.of_eq rfl) (LeX.nil rfl))
 obtain rfl:k=t.length:=by omega
 rw [List.take_length]
 clear hql hk hkt
 obtain ⟨b1,hb1⟩:∃ b1,b1=t.map bare:=⟨_,rfl⟩
 rw [← hb1] at hE⊢
 have hb1n:nds b1=t:=by rw [hb1];unfold nds;rw [List.map_map];exact List.map_id _
 have hb1l:b1.length=t.length:=by rw [hb1,List.length_map]
 have hbn1:(bnC b1).n=b1.length:=rfl
 obtain ⟨R,hR⟩:∃ R,R=setsP M b1 (t.map fun _=>0) (-1) (L.drop M):=⟨_,rfl⟩
 rw [← hR] at hE
 have hst:SetsAt L R b1 (M+0) b1 (t.map fun _=>0) (-1):=by
  rw [hb1] at hR⊢
  exact sets_start hml hR.symm
 have hok:∀ (b:List Bn),nds b=nds b1→(∀ x∈b,pcheckE x.red=0)→∀ x∈b,okB x:=fun b hb hr x hx=>by
  have h3:x.nd∈t:=by rw [← hb1n,← hb];exact List.mem_map.2 ⟨x,hx,rfl⟩
  have h4:=htf.1 _ h3
  have h5:=pcheck_iff.1 (hr x hx)
  exact ⟨⟨by have:=h4.1;omega,by have:=h4.2.1;omega,by have:=h4.2.2;omega⟩,by omega,fun s hs=>by have:=(name_size (h5.2 s hs)).1;omega⟩
 have htp0:=(tok_node hT).1
 refine wa ?_
 (refine TE.only [16,15,14,12,5] (by rfl) ?_)
 refine TE.loopG (fun q:Nat×List Bn×List Int×Int=>SetsAt L R b1 (M+q.1) q.2.1 q.2.2.1 q.2.2.2) (fun q=>[(16,.o (.c (.int .i64 ((M:Int)+(q.1:Int))))),(15,.o (.c (.int .i64 q.2.2.2))),(14,.o (.own 1)),(12,.o (.own 0))]) [0,1] (fun q=>[.own 0 37 10 (bnC q.2.1),.own 1 3 1 (intC q.2.2.1)]) (fun q=>L.length - (M+q.1)) (0,b1,t.map fun _=>0,-1) (by rfl) hst ?_ ?_
 ·(refine Ent.of rfl rfl (by rfl) ?_;(try (first|exact trivial|((with_reducible refine AllP.go ?_);dsimp only [AllP,appP];repeat' (first|refine And.intro ?_ ?_|exact zz)))))
  exact int_zero (by rw [List.length_map];omega) (fun k=>hst.free k (by omega))
 rintro ⟨j,b,W,last⟩ g
 have g1:M+j≤L.length:=g.le
 have g2:nds b=nds b1:=g.nds
 have g3 : -1≤last:=g.lo
 have g4:W.length=b.length:=g.len
 have g5:last<b.length:=g.hi
 have hbl:b.length=b1.length:=by have:=congrArg List.length g2;unfold nds at this;rwa [List.length_map,List.length_map] at this
 have hbk:=hok b g2 g.red
 have hWn:(intC W).n=W.length:=rfl
 have hji:((M:Int)+(j:Int)).toNat=M+j:=by omega
 by_cases hjl:M+j<L.length
 ·have hsz:=hls _ (getD_mem (l:=L) (d:=[]) hjl)
  have hsb:=rset_c b (L.getD (M+j) []) last (by omega) hbk (by omega) (by omega) g3
  cases hS:setS b (L.getD (M+j) []) last with
  | none=>
   rw [hS] at hsb
   dsimp only at hsb
   have hRR:=sets_bad g hjl hS
   rw [hRR] at hE
   dsimp only at hE
   rw [hE]
   refine wa ?_
   refine cw (hsb) ?_
   intro _ _
   refine wb ?_
   exact po
  | some x=>
   obtain ⟨c,n⟩:=x
   rw [hS] at hsb
   dsimp only at hsb
   have hso:=set_ok hS
   have hmo:=sets_more g hjl hS
   have hn:=hso.lt
   have hzz:((M+j:Nat):Int)+1=(M:Int)+(j:Int)+1:=by omega
   rw [hzz] at hmo
   refine wa ?_
   refine cw (hsb) ?_
   intro _ _
   refine wb ?_
   refine TE.again' (j+1,c,W.set n ((M:Int)+(j:Int)+1),(n:Int)) hmo (by dsimp only;omega) ?_
   (refine Ent.of rfl rfl (by rfl) ?_;(try (first|exact trivial|((with_reducible refine AllP.go ?_);dsimp only [AllP,appP];repeat' (first|refine And.intro ?_ ?_|exact zz)))))
   all_goals exact int_set (by omega)
 ·obtain hjj:M+j=L.length:=by omega
  have hRR:=sets_end g (by omega)
  rw [hRR] at hE
  dsimp only at hE
  have hTb:Tok (nds b):=by rw [g2,hb1n];exact hT
  refine wa ?_
  (refine TE.freezeN 0 (by rfl) (by rfl) ?_)
  refine cw (rcheckB_c b (by omega) hbk) ?_
  intro _ _
  by_cases h3:(checkB b).2≠0
  ·obtain ⟨k,hk,hkl⟩:=checkB_in hTb h3
   rw [if_pos h3,hk,Int.toNat_natCast] at hE
   rw [hk]
   by_cases h4:0<W.getD k 0
   ·rw [if_pos h4] at hE
    rw [hE]
    refine wb ?_
    (refine TE.only [14,11,6] (by rfl) ?_)
    refine wg ?_
    all_goals refine wa ?_
    all_goals exact po
   ·rw [if_neg h4] at hE
    rw [hE]
    refine wb ?_
    exact po
  ·rw [if_neg h3] at hE
   rw [hE]
   refine wb ?_
   exact po
theorem sets_fine:∀ {L:List Bs} {i:Nat} {b c:List Bn} {W V:List Int} {last:Int},(∀ x∈b,pcheckE x.red=0)→setsP i b W last L = .inl (c,V)→nds c=nds b∧∀ x∈c,pcheckE x.red=0
 | [],i,b,c,W,V,last,h,e=>by
  rw [setsP] at e
  injection e with e
  injection e with e1 e2
  subst e1
  exact ⟨rfl,h⟩
 | s :: r,i,b,c,W,V,last,h,e=>by
  rw [setsP] at e
  cases hS:setS b s last with
  | none=>rw [hS] at e;cases e
  | some y=>
   obtain ⟨d,n⟩:=y
   rw [hS] at e
   have hs:=set_ok hS
   obtain ⟨k1,k2,x,k3,k4,k5⟩:=id hs
   have hd:∀ x∈d,pcheckE x.red=0:=fun y hy=>by
    rw [k3] at hy
    rcases List.mem_or_eq_of_mem_set hy with hy | rfl
    ·exact h y hy
    ·exact k5 (h _ (getD_mem k1))
   obtain ⟨j1,j2⟩:=sets_fine hd e
   exact ⟨j1.trans hs.nds,j2⟩
theorem parseB_fine (s:Bs):(∀ x∈(parseB s).1,okB x)∧(parseB s).1.length≤5000:=by
 unfold parseB
 split
 ·exact ⟨fun x h=>(nomatch h),Nat.zero_le _⟩
 split
 ·exact ⟨fun x h=>(nomatch h),Nat.zero_le _⟩
 have htf:=parseT_fine (headT ((linesI s).1.take (manyP (linesI s).1)))
 split
 ·exact ⟨fun x h=>(nomatch h),Nat.zero_le _⟩
 ·rename_i b W e
  split
  ·exact ⟨fun x h=>(nomatch h),Nat.zero_le _⟩
  ·obtain ⟨j1,j2⟩:=sets_fine (fun x h=>by obtain ⟨y,_,rfl⟩:=List.mem_map.1 h;exact (by decide:pcheckE []=0)) e
   have hn:nds ((parseT (headT ((linesI s).1.take (manyP (linesI s).1)))).1.map bare)=(parseT (headT ((linesI s).1.take (manyP (linesI s).1)))).1:=by unfold nds;rw [List.map_map];exact List.map_id _
   rw [hn] at j1
   refine ⟨fun x hx=>?_,?_⟩
   ·have h3:x.nd∈nds b:=List.mem_map.2 ⟨x,hx,rfl⟩
    rw [j1] at h3
    have h4:=htf.1 _ h3
    have h5:=pcheck_iff.1 (j2 x hx)
    exact ⟨⟨by have:=h4.1;omega,by have:=h4.2.1;omega,by have:=h4.2.2;omega⟩,by omega,fun s hs=>by have:=(name_size (h5.2 s hs)).1;omega⟩
   ·have:=congrArg List.length j1
    unfold nds at this
    rw [List.length_map] at this
    have:=htf.2.2
    dsimp only
    omega
end Go.Proofs.YtalmoocpebhoiaaGreatDoor.Am
namespace Go.Proofs.YtalmoocpebhoiaaGreatDoor.Am
open Go.RowKit Lw
open Br
def smB (x:Bn):Prop:=(x.nd.attrs.length≤10∧x.red.length≤12∧x.nd.name.size≤1000∧x.nd.data.size≤1000)∧(∀ j,j<x.nd.attrs.length→(x.nd.attrs.getD j At.d0).1.size≤1000∧(x.nd.attrs.getD j At.d0).2.size≤1000)∧∀ j,j<x.red.length→(x.red.getD j eS).size≤1000
def smL (l:List Bn):Prop:=l.length≤130∧∀ j,j<l.length→smB (l.getD j b0)
theorem large_c (l:List Bn):Con Tryz.prog 5 [.o (.ro 10 l.length (bnC l).cell)] [] 0 0 (fun r:Bool=>r=false→smL l) (fun r=>.o (.c (.bool r))) (fun _=>[]):=by
 refine con_of Tryz.func5 rfl (by kernel_rfl) Tryz.ntmps5 rfl (by first | exact Nat.zero_le _ | decide) (fun _=>⟨rfl,rfl⟩) fun w S ν=>?_
 refine wa ?_
 refine TE.loopG (fun q:Nat=>q≤l.length∧q≤150∧∀ j,j<q→smB (l.getD j b0)) (fun q=>[(3,.o (.c (.int .i64 q)))]) [] (fun _=>[]) (fun q=>l.length - q) 0 (by rfl) ⟨Nat.zero_le _,Nat.zero_le _,fun j hj=>absurd hj (Nat.not_lt_zero _)⟩ ?_ ?_
 ·exact ee
 rintro q ⟨h1,h2,h3⟩
 by_cases hlt:q<l.length∧q<150
 ·obtain ⟨hlt,h150⟩:=hlt
  by_cases hb:(l.getD q b0).nd.attrs.length≤10∧(l.getD q b0).red.length≤12∧(l.getD q b0).nd.name.size≤1000∧(l.getD q b0).nd.data.size≤1000
  ·have hb':=hb
   obtain ⟨b1,b2,b3,b4⟩:=hb'
   refine wa ?_
   refine TE.loopG (fun j:Nat=>j≤(l.getD q b0).nd.attrs.length∧∀ i,i<j→((l.getD q b0).nd.attrs.getD i At.d0).1.size≤1000∧((l.getD q b0).nd.attrs.getD i At.d0).2.size≤1000) (fun j=>[(5,.o (.c (.int .i64 j)))]) [] (fun _=>[]) (fun j=>(l.getD q b0).nd.attrs.length - j) 0 (by rfl) ⟨Nat.zero_le _,fun j hj=>absurd hj (Nat.not_lt_zero _)⟩ ?_ ?_
   ·exact ee
   rintro j ⟨h4,h5⟩
   by_cases hj:j<(l.getD q b0).nd.attrs.length
   ·by_cases hc:((l.getD q b0).nd.attrs.getD j At.d0).1.size≤1000∧((l.getD q b0).nd.attrs.getD j At.d0).2.size≤1000
    ·have hc':=hc
     obtain ⟨c1,c2⟩:=hc'
     refine wa ?_
     refine TE.again' (j+1) ⟨by omega,fun i hi=>?_⟩ (by omega) ?_
     ·rcases Nat.lt_or_ge i j with h6 | h6
      ·exact h5 i h6
      ·obtain rfl:i=j:=by omega
       exact hc
     ·exact ee
    ·(repeat' (first|(with_reducible refine AllP.go ?_;first|exact og|((try simp only [OS]);repeat' (first|exact oj|refine And.intro ?_ ?_)))|(refine rg ?_ ?_)|(with_reducible first|refine stp ?_|refine tD rfl ?_)|refine ct ?_|refine cf ?_|((first|refine gs ?_ ?_|refine gl ?_ ?_|refine gc ?_ ?_)<;>intro h<;>(try simp only [NS] at h)<;>(try exact xf)<;>(try refine rn ?_ ?_))))
     all_goals
      (refine TE.ret' io rfl tysOk (true) ?_ rfl (by rfl) ?_;all_goals (try (first|exact trivial|((with_reducible refine AllP.go ?_);dsimp only [AllP,appP];repeat' (first|refine And.intro ?_ ?_|exact zz)))))
      intro h
      cases h
   ·obtain rfl:j=(l.getD q b0).nd.attrs.length:=by omega
    refine wa ?_
    refine TE.loopG (fun j:Nat=>j≤(l.getD q b0).red.length∧∀ i,i<j→((l.getD q b0).red.getD i eS).size≤1000) (fun j=>[(6,.o (.c (.int .i64 j)))]) [] (fun _=>[]) (fun j=>(l.getD q b0).red.length - j) 0 (by rfl) ⟨Nat.zero_le _,fun j hj=>absurd hj (Nat.not_lt_zero _)⟩ ?_ ?_
    ·exact ee
    rintro j ⟨h6,h7⟩
    by_cases hj:j<(l.getD q b0).red.length
    ·by_cases hc:((l.getD q b0).red.getD j eS).size≤1000
     ·refine wa ?_
      refine TE.again' (j+1) ⟨by omega,fun i hi=>?_⟩ (by omega) ?_
      ·rcases Nat.lt_or_ge i j with h8 | h8
       ·exact h7 i h8
       ·obtain rfl:i=j:=by omega
        exact hc
      ·exact ee
     ·refine wa ?_
      all_goals
       (refine TE.ret' io rfl tysOk (true) ?_ rfl (by rfl) ?_;all_goals (try (first|exact trivial|((with_reducible refine AllP.go ?_);dsimp only [AllP,appP];repeat' (first|refine And.intro ?_ ?_|exact zz)))))
       intro h
       cases h
    ·obtain rfl:j=(l.getD q b0).red.length:=by omega
     refine wa ?_
     refine TE.again' (q+1) ⟨by omega,by omega,fun i hi=>?_⟩ (by omega) ?_
     ·rcases Nat.lt_or_ge i q with h8 | h8
      ·exact h3 i h8
      ·obtain rfl:i=q:=by omega
       exact ⟨hb,h5,h7⟩
     ·exact ee
  ·(repeat' (first|(with_reducible refine AllP.go ?_;first|exact og|((try simp only [OS]);repeat' (first|exact oj|refine And.intro ?_ ?_)))|(refine rg ?_ ?_)|(with_reducible first|refine stp ?_|refine tD rfl ?_)|refine ct ?_|refine cf ?_|((first|refine gs ?_ ?_|refine gl ?_ ?_|refine gc ?_ ?_)<;>intro h<;>(try simp only [NS] at h)<;>(try exact xf)<;>(try refine rn ?_ ?_))))
   all_goals
    (refine TE.ret' io rfl tysOk (true) ?_ rfl (by rfl) ?_;all_goals (try (first|exact trivial|((with_reducible refine AllP.go ?_);dsimp only [AllP,appP];repeat' (first|refine And.intro ?_ ?_|exact zz)))))
    intro h
    cases h
 ·(repeat' (first|(with_reducible refine AllP.go ?_;first|exact og|((try simp only [OS]);repeat' (first|exact oj|refine And.intro ?_ ?_)))|(refine rg ?_ ?_)|(with_reducible first|refine stp ?_|refine tD rfl ?_)|refine ct ?_|refine cf ?_|((first|refine gs ?_ ?_|refine gl ?_ ?_|refine gc ?_ ?_)<;>intro h<;>(try simp only [NS] at h)<;>(try exact xf)<;>(try refine rn ?_ ?_))))
  all_goals
   (refine TE.ret' io rfl tysOk (decide (130<(l.length:Int))) ?_ rfl (by rfl) ?_;all_goals (try (first|exact trivial|((with_reducible refine AllP.go ?_);dsimp only [AllP,appP];repeat' (first|refine And.intro ?_ ?_|exact zz)))))
   intro h
   have h6:=of_decide_eq_false h
   obtain rfl:q=l.length:=by omega
   exact ⟨by omega,h3⟩
theorem sizeI_small {l:List At.At} (h:∀ j,j<l.length→(l.getD j At.d0).1.size≤1000∧(l.getD j At.d0).2.size≤1000):At.sizeI l≤2002*l.length:=by
 have h1:∀ q,q≤l.length→At.sizeI (l.take q)≤2002*q:=by
  intro q
  induction q with
  | zero=>intro _;simp [At.sizeI]
  | succ q ih=>
   intro hq
   rw [At.sizeI_snoc (by omega)]
   have h2:=h q (by omega)
   have h3:=ih (by omega)
   omega
 have h4:=h1 l.length (Nat.le_refl _)
 rwa [List.take_length] at h4
theorem sm_ok {l:List Bn} (h:smL l):l.length≤1000000∧∀ x∈l,okB x:=by
 refine ⟨by have:=h.1;omega,fun x hx=>?_⟩
 obtain ⟨i,hi,rfl⟩:=List.getElem_of_mem hx
 have h1:=h.2 i hi
 rw [List.getD_eq_getElem?_getD,List.getElem?_eq_getElem hi] at h1
 have h1:smB l[i]:=h1
 obtain ⟨⟨h2,h3,h4,h5⟩,h6,h7⟩:=h1
 refine ⟨⟨by omega,?_,by omega⟩,by omega,fun s hs=>?_⟩
 ·have:=sizeI_small h6
  omega
 ·obtain ⟨j,hj,rfl⟩:=List.getElem_of_mem hs
  have h8:=h7 j hj
  rw [List.getD_eq_getElem?_getD,List.getElem?_eq_getElem hj] at h8
  exact Nat.le_trans h8 (by decide)
end Go.Proofs.YtalmoocpebhoiaaGreatDoor.Am
namespace Go.Proofs.YtalmoocpebhoiaaGreatDoor.Am
open Go.RowKit Lw
open Br At
section
variable {d:Di} {last:ByteArray} {x:En}
end
end Go.Proofs.YtalmoocpebhoiaaGreatDoor.Am
namespace Go.Proofs.YtalmoocpebhoiaaGreatDoor.Am
open Go.RowKit Lw
open Br
theorem list_ext2 {α:Type} {d:α} {a b:List α} (h:a.length=b.length) (hk:∀ k,k<a.length→a.getD k d=b.getD k d):a=b:=by
 refine List.ext_getElem h fun k h1 h2=>?_
 have:=hk k h1
 rwa [List.getD_eq_getElem?_getD,List.getElem?_eq_getElem h1,List.getD_eq_getElem?_getD,List.getElem?_eq_getElem h2] at this
theorem rsameB_c (a b:List Bn) (ha:a.length≤1000000) (hb:b.length≤1000000) (hxa:∀ x∈a,okB x) (hxb:∀ x∈b,okB x):Con Tryz.prog 11 [.o (.ro 10 a.length (bnC a).cell),.o (.ro 10 b.length (bnC b).cell)] [] 0 0 U (fun _=>.o (.sb (decide (a=b)))) G0:=by
 refine con_of Tryz.func11 rfl (by kernel_rfl) Tryz.ntmps11 rfl (by first | exact Nat.zero_le _ | decide) (fun _=>⟨rfl,rfl⟩) fun w S ν=>?_
 have ta:=rtree_c a ha fun x h=>(hxa x h).1.1
 have tb:=rtree_c b hb fun x h=>(hxb x h).1.1
 have la:(nds a).length=a.length:=List.length_map ..
 have lb:(nds b).length=b.length:=List.length_map ..
 have c:=sameList_c (nds a) (nds b) (by omega) (by omega) (fun x h=>by obtain ⟨y,hy,rfl⟩:=List.mem_map.1 h;exact (hxa y hy).1.1) (fun x h=>by obtain ⟨y,hy,rfl⟩:=List.mem_map.1 h;exact (hxb y hy).1.1)
 refine wa ?_
 refine cw (ta) ?_
 intro _ _
 refine wb ?_
 refine cw (tb) ?_
 intro _ _
 refine wb ?_
 refine cw (c) ?_
 intro _ _
 by_cases hn:nds a=nds b
 case neg=>
  rw [show decide (a=b)=false from decide_eq_false fun e=>hn (by rw [e])]
  refine wb ?_
  exact po
 have hl:a.length=b.length:=by rw [← la,← lb,hn]
 have hnd:∀ k,(a.getD k b0).nd=(b.getD k b0).nd:=fun k=>by rw [← nds_getD,← nds_getD,hn]
 clear ta tb c
 refine wb ?_
 (refine TE.only [5,1,0] (by rfl) ?_)
 refine TE.loopG (fun q:Nat=>q≤a.length∧∀ k,k<q→a.getD k b0=b.getD k b0) (fun q=>[(5,.o (.c (.int .i64 q)))]) [] (fun _=>[]) (fun q=>a.length - q) 0 (by rfl) ⟨Nat.zero_le _,fun k hk=>absurd hk (Nat.not_lt_zero _)⟩ ?_ ?_
 ·exact ee
 rintro q ⟨h1,h2⟩
 by_cases hlt:q<a.length
 ·have c:=rsame_c (a.getD q b0).red (b.getD q b0).red (hxa _ (getD_mem hlt)).2.1 (hxb _ (getD_mem (by omega))).2.1
  have hq:=hnd q
  have he:a.getD q b0=b.getD q b0↔(a.getD q b0).opq=(b.getD q b0).opq∧(a.getD q b0).red=(b.getD q b0).red:=by
   generalize a.getD q b0=x at *
   generalize b.getD q b0=y at *
   cases x;cases y
   simp_all
  refine wa ?_
  ((refine dn ?_);repeat' (first|(with_reducible refine AllP.go ?_;first|exact og|((try simp only [OS]);repeat' (first|exact oj|refine And.intro ?_ ?_)))|(with_reducible first|exact PanicOk.body|exact rd.panic|refine PanicOk.then' ?_|refine PanicOk.block ?_|refine PanicOk.jump ?_)|(refine TL.done (by rfl) ?_)|(refine TL.auto tysOk rfl ?_ (by rfl) ?_ ?_)|((refine TL.one (by rfl) ?_);first|(refine sm ?_ ?_)|(refine sp ?_ ?_))|(refine sm ?_ ?_)|((first|refine gl ?_ ?_|refine gc ?_ ?_)<;>intro h<;>(try simp only [NS] at h)<;>(try exact xf))))
  ·rw [show decide (a=b)=false from decide_eq_false fun e=>by rw [e] at h;simp at h]
   refine wa ?_
   exact po
  (refine TL.one (by rfl) ?_)
  refine StepL.callW (c) rfl rfl rfl rfl rfl (by rfl) (by (first|exact trivial|((with_reducible refine AllP.go ?_);dsimp only [AllP,appP];repeat' (first|refine And.intro ?_ ?_|exact zz|assumption)))) (by rfl) (by rfl) ?_
  intro _ _
  refine wf ?_
  by_cases hr:(a.getD q b0).red=(b.getD q b0).red
  ·have ho:(a.getD q b0).opq=(b.getD q b0).opq:=by simpa using h
   refine wa ?_
   refine TE.again' (q+1) ⟨by omega,fun k hk=>?_⟩ (by omega) ?_
   ·rcases Nat.lt_or_ge k q with h4 | h4
    ·exact h2 k h4
    ·obtain rfl:k=q:=by omega
     exact he.2 ⟨ho,hr⟩
   ·exact ee
  ·rw [show decide (a=b)=false from decide_eq_false fun e=>hr (by rw [e])]
   refine wa ?_
   exact po
 ·obtain rfl:q=a.length:=by omega
  rw [show decide (a=b)=true from decide_eq_true (list_ext2 (d:=b0) hl h2)]
  refine wa ?_
  exact po
end Go.Proofs.YtalmoocpebhoiaaGreatDoor.Am
namespace Go.Proofs.YtalmoocpebhoiaaGreatDoor.Am
open Go.RowKit Lw
open Br Wo
theorem Texts_c (m:Int) (te:TypeId) (pe:Value) (l:List Bn) (s:Bs):Con Tryz.prog 3 [.o (.ro 10 l.length (bnC l).cell),.o (.c (.string (sB s)))] (glT m te pe) 5 5 U (fun _=>.o (.c (.bool true))) (fun _=>glT m te pe):=by
 refine con_of Tryz.func3 rfl (by kernel_rfl) Tryz.ntmps3 rfl (by first | exact Nat.zero_le _ | decide) (fun _=>⟨rfl,rfl⟩) fun w S ν=>?_
 have hz:=sB_size s
 refine wa ?_
 refine cw (large_c l) ?_
 intro r hr
 cases r
 case true=>
  refine wb ?_
  refine cw (shown_c) ?_
  intro _ _
  refine wb ?_
  exact po
 obtain ⟨hl,hx⟩:=sm_ok (hr rfl)
 by_cases h8:8000<s.length
 ·refine wb ?_
  refine cw (shown_c) ?_
  intro _ _
  refine wb ?_
  exact po
 clear hr
 have hpf:=parseB_fine s
 have hsm:=rsameB_c (parseB s).1 (parseB s).1 (by omega) (by omega) hpf.1 hpf.1
 rw [decide_eq_true rfl] at hsm
 refine wb ?_
 refine cw (bPrint_c m te pe l hl hx) ?_
 intro _ _
 refine wb ?_
 refine cw (rbPrint_c l hl hx) ?_
 intro _ _
 refine wb ?_
 refine cw (bParse_c m te pe s (by omega)) ?_
 intro _ _
 refine wb ?_
 refine cw (rbParse_c s (by omega)) ?_
 intro _ _
 refine wb ?_
 refine cw (hsm) ?_
 intro _ _
 refine wb ?_
 refine cw (shown_c) ?_
 intro _ _
 refine wb ?_
 all_goals exact po
end Go.Proofs.YtalmoocpebhoiaaGreatDoor.Am
namespace Go.Proofs.YtalmoocpebhoiaaGreatDoor.Am
open Go.RowKit Lw At Br
theorem not_st {P:Program} {t:TypeId} {d:TypeDesc} (h:P.underlying t=some d) (hd:∀ fs,d≠.struct fs):∀ fs,P.underlying t≠some (.struct fs):=fun fs e=>hd fs (Option.some.inj (h.symm.trans e))
theorem not_ar {P:Program} {t:TypeId} {d:TypeDesc} (h:P.underlying t=some d) (hd:∀ n e,d≠.array n e):∀ n e,P.underlying t≠some (.array n e):=fun n e' e=>hd n e' (Option.some.inj (h.symm.trans e))
theorem ao_str:AOpen Tryz.prog 9 (fun s=>.o (.c (.string s))) strG:=
 AOpen.one (DOpen.str (by kernel_rfl) (by kernel_rfl)) (not_st (d:=.string) (by kernel_rfl) fun _ h=>by cases h) (not_ar (d:=.string) (by kernel_rfl) fun _ _ h=>by cases h)
theorem do_strs:DOpen Tryz.prog 35 1 (slR 1 strR eS) (listG strG):=DOpen.slice (e:=9) (DOpen.str (by kernel_rfl) (by kernel_rfl)) eS (by kernel_rfl) (by kernel_rfl)
def atGood (x:At.At):Prop:=x.1.size≤maxLen∧x.2.size≤maxLen
theorem do_at:DOpen Tryz.prog 39 2 atR atGood:=by
 have h0:=DOpen.struct (P:=Tryz.prog) (t:=39) (by kernel_rfl) (by decide) Tryz.underlying39 (DFields.cons rfl (DOpen.str (by kernel_rfl) (by kernel_rfl)) (DFields.cons rfl (DOpen.str (by kernel_rfl) (by kernel_rfl)) DFields.nil))
 refine h0.map (fun x=>((x.1,x.2.1):At.At)) (fun x j hj=>?_) fun x g=>(show atGood _ from ⟨g.1,g.2.1⟩)
 match j,hj with
 | 0,_=>rfl
 | 1,_=>rfl
theorem do_ats:DOpen Tryz.prog 34 1 (slR 2 atR d0) (listG atGood):=DOpen.slice (e:=39) do_at _ (by kernel_rfl) (by kernel_rfl)
def bnGood (x:Bn):Prop:=intG x.nd.depth∧strG x.nd.name∧intG x.nd.kind∧listG atGood x.nd.attrs∧strG x.nd.data∧intG x.nd.major∧intG x.nd.minor∧intG x.nd.cls∧listG strG x.red
theorem do_bn:DOpen Tryz.prog 37 10 bnR bnGood:=by
 have h0:=DOpen.struct (P:=Tryz.prog) (t:=37) (by kernel_rfl) (by decide) Tryz.underlying37 (DFields.cons rfl (DOpen.i64 (by kernel_rfl) (by kernel_rfl)) (DFields.cons rfl (DOpen.str (by kernel_rfl) (by kernel_rfl)) (DFields.cons rfl (DOpen.i64 (by kernel_rfl) (by kernel_rfl)) (DFields.cons rfl do_ats (DFields.cons rfl (DOpen.str (by kernel_rfl) (by kernel_rfl)) (DFields.cons rfl (DOpen.i64 (by kernel_rfl) (by kernel_rfl)) (DFields.cons rfl (DOpen.i64 (by kernel_rfl) (by kernel_rfl)) (DFields.cons rfl (DOpen.i64 (by kernel_rfl) (by kernel_rfl)) (DFields.cons rfl (DOpen.bool (by kernel_rfl) (by kernel_rfl)) (DFields.cons rfl do_strs DFields.nil))))))))))
 refine h0.map (fun x=>(⟨⟨x.1,x.2.1,x.2.2.1,x.2.2.2.1,x.2.2.2.2.1,x.2.2.2.2.2.1,x.2.2.2.2.2.2.1,x.2.2.2.2.2.2.2.1⟩,x.2.2.2.2.2.2.2.2.1,x.2.2.2.2.2.2.2.2.2.1⟩:Bn)) (fun x j hj=>?_) fun x g=>(show bnGood _ from ⟨g.1,g.2.1,g.2.2.1,g.2.2.2.1,g.2.2.2.2.1,g.2.2.2.2.2.1,g.2.2.2.2.2.2.1,g.2.2.2.2.2.2.2.1,g.2.2.2.2.2.2.2.2.2.1⟩)
 match j,hj with
 | 0,_=>rfl
 | 1,_=>rfl
 | 2,_=>rfl
 | 3,_=>rfl
 | 4,_=>rfl
 | 5,_=>rfl
 | 6,_=>rfl
 | 7,_=>rfl
 | 8,_=>rfl
 | 9,_=>rfl
theorem do_bns:DOpen Tryz.prog 22 1 (slR 10 bnR b0) (listG bnGood):=DOpen.slice (e:=37) do_bn _ (by kernel_rfl) (by kernel_rfl)
theorem ao_bns:AOpen Tryz.prog 22 (fun l:List Bn=>.o (.ro 10 l.length (bnC l).cell)) (listG bnGood):=
 AOpen.one do_bns (not_st (d:=.slice 37) (by kernel_rfl) fun _ h=>by cases h) (not_ar (d:=.slice 37) (by kernel_rfl) fun _ _ h=>by cases h)
end Go.Proofs.YtalmoocpebhoiaaGreatDoor.Am
namespace Go
variable {H:Type} {enc:TypeId×Value→H}
theorem returnsInHanded_of_change_and_shaped {a:Assume} {C:Checked} {os:Os} {f:FuncId} {fn:Func} {s:ChangeSpec} {conds:List PathCond} {apart fresh handsOn again:Bool} {X:World→Array Value→Prop}
  (hX:∀ (w w' : World) (args:Array Value),w.heap=w'.heap→X w args→X w' args)
  (own:ownKnob C.prog.godebug=none) (started:os.Started) (noInit:C.prog.inits.idxOf? f=none) (hfn:C.prog.funcs[f]? = some fn)
  (witness:∃ (w:World) (tape:Tape) (i:Input),w.os=os∧(w.forCall tape i).Shaped C.prog∧i.vars=[]∧Input.okWide C.prog (w.forCall tape i) .any w.heap.size f i∧
   ((s.pre enc C.prog fn conds apart (w.forCall tape i).memory i.args∧X (w.forCall tape i).memory i.args)∧sizedMet enc C.prog fn (OpenSpec.ofChange s) apart (w.forCall tape i).memory i.args)∧a.holds C.prog (lone (Frame.enter C.prog f i.args .normal) [] (w.forCall tape i)))
  (contract:∀ (W:World) (base:Nat) (args:Array Value) (ds gs:List (DataW H)) (before:List MemPlace),
   (∀ (j:Nat) t v,fn.params[j]? = some t→args[j]? = some v→Value.okWide C.prog W .any base t v)→
   DataW.Whole enc C.prog fn.params.toList s.vars apart W args.toList ds gs before→X W args→W.ShapedOpen C.prog→
   Calls C.prog f args W fun e W'=>∃ v,e = .returned v∧s.post enc C.prog fn apart fresh handsOn again W args v W') :
  ReturnsInHanded a C os f .any (fun w args=>(s.pre enc C.prog fn conds apart w args∧X w args)∧sizedMet enc C.prog fn (OpenSpec.ofChange s) apart w args) (s.post enc C.prog fn apart fresh handsOn again):=by
 refine returnsInHanded_of_calls own started noInit witness ?_
 intro w tape i _ hsh _ hok hpre hholds
 obtain ⟨_,_,_,fn',hfn',_,_,_,_,hval⟩:=hok
 have e:fn' = fn:=Option.some.inj (hfn'.symm.trans hfn)
 subst e
 obtain ⟨⟨⟨ds,gs,before,hw,hc⟩,hx⟩,hz⟩:=hpre
 have hw':=DataW.Whole.of_heap (w':=w.forCall tape i) (by rfl) hw
 refine (contract (w.forCall tape i) w.heap.size i.args ds gs before hval hw' (hX _ _ _ (by rfl) hx) hsh).mono fun e W' ⟨v,he,hp⟩=>?_
 subst he
 exact ChangeSpec.post_blind hp
end Go
namespace Go.Proofs.YtalmoocpebhoiaaGreatDoor.Am
open Go.RowKit Lw Wo Br Go.ChangeShapes Go.WideShapes Go.Deep
section
variable {H:Type} {enc:TypeId×Value→H} {P:Program} {w:World} {base:Nat} {sp:Nat→Bool} {held:Bool}
theorem array_len {fuel:Nat} {t e:TypeId} {n:Nat} {cs:List Value} {x:DataW H×List MemPlace} (ht:P.underlying t=some (.array n e)) (h:DataW.trod enc P w base sp held fuel t cs=some x):cs.length=P.cellsOf t:=by
 cases fuel with
 | zero=>simp [DataW.trod] at h
 | succ fuel=>
  simp only [DataW.trod,ht] at h
  split at h
  ·assumption
  ·cases h
end
def escPair (i:Nat):DataW Unit:=.agg ([(escL.getD (2*i) 0:Int),(escL.getD (2*i+1) 0:Int)].map fun z=>.lit (.int .u8 z))
theorem esc_cells {W : World} (h : Lib.VarReads Tryz.prog W "limewash/words.escapes" Rows.laid_limewash_words_escapes) : (Chunk.stat 0 1 10 escD).holds W (· < W.heap.size) (fun _ => undef) := by
 obtain ⟨g,t,cs,fuel,p,hg,hty,hvar,hd⟩:=h
 obtain rfl := Option.some.inj ((show Tryz.prog.globalNamed "limewash/words.escapes" = some 1 by kernel_rfl).symm.trans hg)
 obtain rfl:=Option.some.inj ((show (Tryz.prog.globals[1]?).map (·.type)=some 172 by kernel_rfl).symm.trans hty)
 have hce:Tryz.prog.cellsOf 171=2:=by kernel_rfl
 have hct:Tryz.prog.cellsOf 172=10:=by kernel_rfl
 have hc1:Tryz.prog.cellsOf 5=1:=by kernel_rfl
 have hu8:Tryz.prog.underlying 5=some (.int .u8):=by kernel_rfl
 have hlen:cs.size=10:=by
  have:=array_len Tryz.underlying172 hd
  rw [hct] at this
  simpa using this
 have key:∀ i,i<5→(cs.toList.drop (i*2)).take 2=[(escL.getD (2*i) 0:Int),(escL.getD (2*i+1) 0:Int)].map fun z=>Value.int .u8 z:=by
  intro i hi
  obtain ⟨fuel',d,q,hdi,he⟩:=Lib.array_elem Tryz.underlying172 hd i hi
  rw [hce] at he
  have hdp:d=escPair i:=by
   match i,hi,hdi with
   | 0,_,hdi=>cases hdi;rfl
   | 1,_,hdi=>cases hdi;rfl
   | 2,_,hdi=>cases hdi;rfl
   | 3,_,hdi=>cases hdi;rfl
   | 4,_,hdi=>cases hdi;rfl
  rw [hdp] at he
  exact Lib.ints_of_struct Tryz.underlying171 (fun j f hj=>by
   match j,hj with
   | 0,hj=>simp at hj;subst hj;exact ⟨hu8,rfl,hc1⟩
   | 1,hj=>simp at hj;subst hj;exact ⟨hu8,rfl,hc1⟩
   | j+2,hj=>simp at hj) (by rw [hce];rfl) he
 refine stat_of_var 0 hvar (by kernel_rfl) hlen fun j u hj hu=>?_
 have hk:=congrArg (·[j % 2]?) (key (j / 2) (by omega))
 simp only [List.getElem?_take,List.getElem?_drop] at hk
 rw [if_pos (by omega),show j / 2*2+j % 2=j by omega,Array.getElem?_toList,hu] at hk
 refine ⟨?_,?_⟩
 ·rcases Nat.mod_two_eq_zero_or_one j with h2 | h2
  ·rw [h2] at hk
   have h3:2*(j / 2)=j:=by omega
   rw [h3] at hk
   exact Option.some.inj hk
  ·rw [h2] at hk
   have h3:2*(j / 2)+1=j:=by omega
   rw [h3] at hk
   exact Option.some.inj hk
 ·rfl
theorem pow_cells {W : World} (h : Lib.TabIs Tryz.prog W "internal/strconv.uint64pow10" .u64 Lib.pow10Tab) : (Chunk.stat 3 3 20 powD).holds W (· < W.heap.size) (fun _ => undef) := by
 refine stat_of_var 3 h (by kernel_rfl) (by rfl) fun j u hj hu=>⟨?_,rfl⟩
 have hl:Lib.pow10Tab.length=20:=rfl
 simp only [List.getElem?_toArray,List.getElem?_map] at hu
 rw [List.getElem?_eq_getElem (by omega)] at hu
 simp only [Option.map_some,Option.some.injEq] at hu
 rw [← hu,List.getD_eq_getElem?_getD,List.getElem?_eq_getElem (by omega)]
 rfl
theorem starE : ("*errors.errorString" : String) = "*" ++ "errors.errorString" := by decide
theorem row_err (u : TypeId) (h : Tryz.prog.typeName? 3 u = some "*errors.errorString") : u = 238 :=
 typeName_ptr_named (nm := "errors.errorString") (by rw [← starE]; kernel_rfl) (by kernel_rfl) (by decide) u (by rw [← starE]; exact h)
abbrev glLaid : List (String × DataW Unit) := [("math/bits.deBruijn32tab", Rows.laid_math_bits_deBruijn32tab), ("math/bits.deBruijn64tab", Rows.laid_math_bits_deBruijn64tab), ("internal/strconv.uint64pow10", Rows.laid_internal_strconv_uint64pow10), ("unicode/utf8.acceptRanges", Rows.laid_unicode_utf8_acceptRanges), ("strconv.ErrRange", Rows.laid_strconv_ErrRange), ("strconv.ErrSyntax", Rows.laid_strconv_ErrSyntax), ("limewash/words.escapes", Rows.laid_limewash_words_escapes), ("limewash/tree.names", Rows.laid_limewash_tree_names), ("unicode/utf8.first", Rows.laid_unicode_utf8_first)]
theorem lit_str {H:Type} {a b:List UInt8} (h:(DataW.lit (.string a):DataW H) = .lit (.string b)):b=a:=by cases h;rfl
theorem nam_cells {W : World} (h : Lib.VarReads Tryz.prog W "limewash/tree.names" Rows.laid_limewash_tree_names) : (Chunk.stat 4 0 6 namD).holds W (· < W.heap.size) (fun _ => undef) := by
 obtain ⟨g,t,cs,fuel,p,hg,hty,hvar,hd⟩:=h
 obtain rfl := Option.some.inj ((show Tryz.prog.globalNamed "limewash/tree.names" = some 0 by kernel_rfl).symm.trans hg)
 obtain rfl:=Option.some.inj ((show (Tryz.prog.globals[0]?).map (·.type)=some 137 by kernel_rfl).symm.trans hty)
 have hce:Tryz.prog.cellsOf 9=1:=by kernel_rfl
 have hct:Tryz.prog.cellsOf 137=6:=by kernel_rfl
 have hlen:cs.size=6:=by
  have:=array_len Tryz.underlying137 hd
  rw [hct] at this
  simpa using this
 have key:∀ i,i<6→(cs.toList.drop i).take 1=[Value.string (sB (kindL.getD i []))]:=by
  intro i hi
  obtain ⟨fuel',d,q,hdi,he⟩:=Lib.array_elem Tryz.underlying137 hd i hi
  rw [hce,Nat.mul_one] at he
  obtain ⟨s,e1,e2,_⟩:=DataW.trod_string Tryz.underlying9 he
  rw [e1]
  have hdp:d = .lit (.string (kindL.getD i [])):=by
   match i,hi,hdi with
   | 0,_,hdi=>cases hdi;rfl
   | 1,_,hdi=>cases hdi;rfl
   | 2,_,hdi=>cases hdi;rfl
   | 3,_,hdi=>cases hdi;rfl
   | 4,_,hdi=>cases hdi;rfl
   | 5,_,hdi=>cases hdi;rfl
  have e3:s.data.toList=kindL.getD i []:=by
   have:=congrArg Prod.fst e2
   rw [hdp] at this
   exact lit_str this
  rw [← e3,show sB s.data.toList=s from sB_bL s]
 refine stat_of_var 4 hvar (by kernel_rfl) hlen fun j u hj hu=>?_
 have hk:=congrArg (·[0]?) (key j hj)
 simp only [List.getElem?_take,List.getElem?_drop] at hk
 rw [if_pos (by omega),Nat.add_zero,Array.getElem?_toList,hu] at hk
 exact ⟨Option.some.inj hk,rfl⟩
theorem glT_of {W:World} (h:laidMet Tryz.prog glLaid W) (hs:W.ShapedOpen Tryz.prog):∃ m te pe,∀ c∈glT m te pe,c.holds W (· < W.heap.size) (fun _=>undef):=by
 have hp := Lib.tabIs_of_head (k := .u64) (zs := Lib.pow10Tab) (name := "internal/strconv.uint64pow10") (g := 3) (t := 207) (e := 197) (n := 20) (by kernel_rfl) (by kernel_rfl) Tryz.underlying207 Tryz.underlying197 (by kernel_rfl) (by kernel_rfl) h.tail.tail
 have he:=esc_cells (Lib.laidMet.reads h (by simp [glLaid]))
 obtain ⟨a, s, hv, _, _, _⟩ := laid_sentinel (P := Tryz.prog) (n := "strconv.ErrRange") (g := 7) (ti := 105) (tp := 238) (te := 240) (ts := 9) h.tail.tail.tail.tail (by kernel_rfl) (by kernel_rfl) Tryz.underlying105 row_err (by kernel_rfl) Tryz.underlying240 rfl rfl (by kernel_rfl) (by kernel_rfl) (by kernel_rfl)
 obtain ⟨m,hm⟩:=Proofs.cell_of_shapedOpen_int (g:=2) (t:=3) (zero:=#[.int .i64 0]) (k:=.i64) hs (Nat.le_of_ble_eq_true (by kernel_rfl)) (by kernel_rfl) rfl (by kernel_rfl) (by kernel_rfl) (by kernel_rfl)
 refine ⟨m,238,.pointer (some a),fun c hc=>?_⟩
 rcases List.mem_cons.1 hc with rfl | hc
 ·exact he
 rcases List.mem_cons.1 hc with rfl | hc
 ·obtain ⟨cs,h1,h2,_⟩:=hs.1 2 #[.int .i64 0] 3 (Nat.le_of_ble_eq_true (by kernel_rfl)) (by kernel_rfl)
  have hlt:2<W.heap.size:=(Array.getElem?_eq_some_iff.1 h1).1
  refine ⟨hlt,hlt,fun j hj=>?_,cs,_,_,h1,h2⟩
  obtain rfl:j=0:=by omega
  exact ⟨_,hm,rfl,rfl⟩
 rcases List.mem_cons.1 hc with rfl | hc
 ·exact stat_of_var 2 hv (by kernel_rfl) (by rfl) fun j u hj hu=>by
   obtain rfl:j=0:=by omega
   cases hu
   exact ⟨rfl,rfl⟩
 rcases List.mem_cons.1 hc with rfl | hc
 ·exact pow_cells hp
 ·obtain rfl:=List.mem_singleton.1 hc
  exact nam_cells (Lib.laidMet.reads h (by simp [glLaid]))
end Go.Proofs.YtalmoocpebhoiaaGreatDoor.Am
