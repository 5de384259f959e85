/- Texts of this claim, joined. -/
import Derived.Test.YtalmoocpebhoiaaGreatDoorPk2
import Derived.Test.YtalmoocpebhoiaaGreatDoorPk3
import Derived.Test.YtalmoocpebhoiaaGreatDoorPk4
import Derived.Test.YtalmoocpebhoiaaGreatDoorPk5
import Derived.Test.YtalmoocpebhoiaaGreatDoorPk6
import Derived.Lib.ItoaLen
import Derived.Lib.SplitLaws
set_option linter.unusedSimpArgs false
set_option linter.unusedVariables false
set_option maxRecDepth 20000
set_option maxHeartbeats 8000000
namespace Go.Proofs.YtalmoocpebhoiaaGreatDoor.Am
open Go.RowKit Lw
open Br
section
variable {α:Type} {f:α→List DC}
theorem get_ents (d:α):∀ (l:List α) (k z:Int),k≤z→z<k+l.length→getM (ents f k l) z=some (f (l.getD (z - k).toNat d))
 | [],k,z,h1,h2=>by simp at h2;omega
 | x :: r,k,z,h1,h2=>by
  rw [ents,getM]
  by_cases e:k=z
  ·rw [if_pos e,e,Int.sub_self];rfl
  ·simp only [List.length_cons] at h2
   rw [if_neg e,get_ents d r (k+1) z (by omega) (by omega),show (z - k).toNat=(z - (k+1)).toNat+1 by omega];rfl
theorem get_none:∀ (l:List α) (k z:Int),k+l.length≤z→getM (ents f k l) z=none
 | [],_,_,_=>rfl
 | x :: r,k,z,h=>by
  simp only [List.length_cons] at h
  rw [ents,getM,if_neg (by omega),get_none r (k+1) z (by omega)]
theorem put_new (x:α):∀ (l:List α) (k z:Int),z=k+l.length→putM (ents f k l) z (f x)=ents f k (l++[x])
 | [],k,z,h=>by
  obtain rfl:z=k:=by simpa using h
  rfl
 | y :: r,k,z,h=>by
  simp only [List.length_cons] at h
  rw [ents,putM,if_neg (by omega),put_new x r (k+1) z (by omega)];rfl
theorem put_old (x:α):∀ (l:List α) (k z:Int),k≤z→z<k+l.length→putM (ents f k l) z (f x)=ents f k (l.set (z - k).toNat x)
 | [],k,z,h1,h2=>by simp at h2;omega
 | y :: r,k,z,h1,h2=>by
  rw [ents,putM]
  by_cases e:k=z
  ·rw [if_pos e,e,Int.sub_self];rfl
  ·simp only [List.length_cons] at h2
   rw [if_neg e,put_old x r (k+1) z (by omega) (by omega),show (z - k).toNat=(z - (k+1)).toNat+1 by omega];rfl
end
abbrev ndDs (x:Nd):List DC:=[.c (.int .i64 x.depth),.c (.string x.name),.c (.int .i64 x.kind),.sl 2 x.attrs.length (atC x.attrs).cell,.c (.string x.data),.c (.int .i64 x.major),.c (.int .i64 x.minor),.c (.int .i64 x.cls)]
abbrev cnDs (z:Int):List DC:=[.c (.int .i64 z)]
def opR (x:Int×ByteArray) (j:Nat):DC:=match j with
 | 0=>.c (.int .i64 x.1)
 | _=>.c (.string x.2)
abbrev opC (l:List (Int×ByteArray)):Ct:=listC opR dd0 l
abbrev ckH (c:Ck):List Chunk:=[.box 0 132 [.own 3,.c (.bool c.file),.own 1,.own 2,.c (.int .i64 c.first.length)],.obj 1 (.mp true (ents ndDs 1 c.first)),.obj 2 (.mp false (ents cnDs 1 c.count)),.own 3 181 2 (opC c.dirs)]
def classK (c:Ck) (n:Nd):Ck:=if classF c n=0 then { c with first:=(classD c n).1,count:=(classD c n).2 } else c
theorem class_c (c:Ck) (n:Nd) (hn:lenN n) (hf:∀ x∈c.first,lenN x) (hl:c.count.length=c.first.length) (hcn:∀ z∈c.count,0≤z∧z≤1000000) (hfl:c.first.length≤1000000):Con Tryz.prog 125 [.o (.ptr 0 0),.g (ndA n)] (ckH c) 4 4 U (fun _=>.o (.c (.int .i64 (classF c n)))) (fun _=>ckH (classK c n)):=by
 refine con_of Tryz.func125 rfl (by kernel_rfl) Tryz.ntmps125 rfl (by first | exact Nat.zero_le _ | decide) (fun _=>⟨rfl,rfl⟩) fun w S ν=>?_
 by_cases h0:n.cls=0
 ·have hF:classF c n=0:=if_pos h0
  have hK:classK c n=c:=by unfold classK classD;rw [if_pos hF,if_pos h0]
  rw [hF,hK]
  refine wa ?_
  exact po
 by_cases h1:n.cls<0∨(c.first.length:Int)+1<n.cls
 ·have hF:classF c n=6:=by unfold classF;rw [if_neg h0,if_pos h1]
  have hK:classK c n=c:=by unfold classK;rw [if_neg (by rw [hF];decide)]
  rw [hF,hK]
  (repeat' (first|(with_reducible refine AllP.go ?_;first|exact og|((try simp only [OS]);repeat' (first|exact oj|refine And.intro ?_ ?_)))|(refine rg ?_ ?_)|(with_reducible first|refine stp ?_|refine tD rfl ?_)|(with_reducible first|exact PanicOk.body|exact rd.panic|refine PanicOk.then' ?_|refine PanicOk.block ?_|refine PanicOk.jump ?_)|(refine dc ?_)|(refine dn ?_)|(refine TL.done (by rfl) ?_)|(refine TL.auto tysOk rfl ?_ (by rfl) ?_ ?_)|((refine TL.one (by rfl) ?_);first|(refine sm ?_ ?_)|(refine sp ?_ ?_))|(refine sm ?_ ?_)|refine ct ?_|refine cf ?_|((first|refine gs ?_ ?_|refine gl ?_ ?_|refine gc ?_ ?_)<;>intro h<;>(try simp only [NS] at h)<;>(try exact xf)<;>(try refine rn ?_ ?_))))
  all_goals exact po
 by_cases h2:(c.first.length:Int)<n.cls
 ·have hcls:n.cls=c.first.length+1:=by omega
  have hF:classF c n=0:=by unfold classF;rw [if_neg h0,if_neg h1,if_pos h2]
  have hK:classK c n={ c with first:=c.first++[n],count:=c.count++[1] }:=by unfold classK classD;rw [if_pos hF,if_neg h0,if_pos h2]
  rw [hF,hK]
  have hg:getM (ents cnDs 1 c.count) n.cls=none:=get_none _ _ _ (by omega)
  have hp1:putM (ents ndDs 1 c.first) n.cls (ndDs n)=ents ndDs 1 (c.first++[n]):=put_new n _ _ _ (by omega)
  have hp2:putM (ents cnDs 1 c.count) n.cls (cnDs 1)=ents cnDs 1 (c.count++[1]):=put_new 1 _ _ _ (by omega)
  refine wa ?_
  refine we ?_
  refine wa ?_
  refine we ?_
  refine wa ?_
  (refine TE.drawK (fun i=>Nat.beq i 0 || Nat.beq i 4) (by rfl) (by rfl) (by rfl) ?_)
  refine wf ?_
  (refine StepL.law rfl rfl rfl (fun _ h=>nomatch h) rfl (m_mpUp (mpI true) rfl rfl (Tryz.underlying129) (Tryz.underlying3) rfl rfl rfl rfl rfl) (by rfl) ?_;rintro _ rfl)
  refine wf ?_
  refine wa ?_
  (refine TE.drawK (fun i=>Nat.beq i 0 || Nat.beq i 4) (by rfl) (by rfl) (by rfl) ?_)
  refine wf ?_
  (refine StepL.law rfl rfl rfl (fun _ h=>nomatch h) rfl (m_mpNone tysOk (mpI false) rfl (Tryz.underlying80) (Tryz.underlying3) rfl rfl rfl (hg) rfl rfl rfl) (by rfl) ?_;rintro _ rfl)
  refine wf ?_
  (refine StepL.law rfl rfl rfl (fun _ h=>nomatch h) rfl (m_mpUp (mpI false) rfl rfl (Tryz.underlying80) (Tryz.underlying3) rfl rfl rfl rfl rfl) (by rfl) ?_;rintro _ rfl)
  refine wf ?_
  refine wa ?_
  (refine TE.ret' io rfl tysOk (()) ?_ rfl (by rfl) ?_;all_goals (try (first|exact trivial|((with_reducible refine AllP.go ?_);dsimp only [AllP,appP];repeat' (first|refine And.intro ?_ ?_|exact zz)))))
  all_goals first
   | exact congrArg (AO.mp true) hp1
   | exact congrArg (AO.mp false) hp2
   | (refine congrArg (Value.int _) ?_;rw [List.length_append];simp)
 have hF:classF c n=if likeN (c.first.getD (n.cls - 1).toNat n0) n=true then 0 else 6:=by unfold classF;rw [if_neg h0,if_neg h1,if_neg h2]
 have hfx:=hf _ (getD_mem (l:=c.first) (d:=n0) (k:=(n.cls - 1).toNat) (by omega))
 have hlk:=like_c (c.first.getD (n.cls - 1).toNat n0) n hfx hn
 have hg1:getM (ents ndDs 1 c.first) n.cls=some (ndDs (c.first.getD (n.cls - 1).toNat n0)):=get_ents n0 _ _ _ (by omega) (by omega)
 have hg2:getM (ents cnDs 1 c.count) n.cls=some (cnDs (c.count.getD (n.cls - 1).toNat 0)):=get_ents 0 _ _ _ (by omega) (by omega)
 have hcz:=hcn _ (getD_mem (l:=c.count) (d:=0) (k:=(n.cls - 1).toNat) (by omega))
 have hp2:putM (ents cnDs 1 c.count) n.cls (cnDs (c.count.getD (n.cls - 1).toNat 0+1))=ents cnDs 1 (c.count.set (n.cls - 1).toNat (c.count.getD (n.cls - 1).toNat 0+1)):=put_old _ _ _ _ (by omega) (by omega)
 cases hB:likeN (c.first.getD (n.cls - 1).toNat n0) n
 ·rw [hB,if_neg (by decide)] at hF
  rw [hB] at hlk
  have hK:classK c n=c:=by unfold classK;rw [if_neg (by rw [hF];decide)]
  rw [hF,hK]
  refine wa ?_
  refine we ?_
  refine wa ?_
  refine we ?_
  refine wa ?_
  (refine TE.drawN (by rfl) (by rfl) (by rfl) ?_)
  refine wf ?_
  (refine StepL.law rfl rfl rfl (fun _ h=>nomatch h) rfl (m_mpGet (mpI true) rfl (Tryz.underlying129) (Tryz.underlying3) rfl rfl rfl (hg1) rfl) (by rfl) ?_;rintro _ rfl)
  refine wf ?_
  refine StepL.callW (hlk) rfl rfl rfl rfl rfl (by rfl) (by (first|exact trivial|((with_reducible refine AllP.go ?_);dsimp only [AllP,appP];repeat' (first|refine And.intro ?_ ?_|exact zz|assumption)))) (by rfl) (by rfl) ?_
  intro _ _
  refine wf ?_
  refine wa ?_
  exact po
 ·rw [hB,if_pos rfl] at hF
  rw [hB] at hlk
  have hK:classK c n={ c with count:=c.count.set (n.cls - 1).toNat (c.count.getD (n.cls - 1).toNat 0+1) }:=by unfold classK classD;rw [if_pos hF,if_neg h0,if_neg h2]
  rw [hF,hK]
  refine wa ?_
  refine we ?_
  refine wa ?_
  refine we ?_
  refine wa ?_
  (refine TE.drawN (by rfl) (by rfl) (by rfl) ?_)
  refine wf ?_
  (refine StepL.law rfl rfl rfl (fun _ h=>nomatch h) rfl (m_mpGet (mpI true) rfl (Tryz.underlying129) (Tryz.underlying3) rfl rfl rfl (hg1) rfl) (by rfl) ?_;rintro _ rfl)
  refine wf ?_
  refine StepL.callW (hlk) rfl rfl rfl rfl rfl (by rfl) (by (first|exact trivial|((with_reducible refine AllP.go ?_);dsimp only [AllP,appP];repeat' (first|refine And.intro ?_ ?_|exact zz|assumption)))) (by rfl) (by rfl) ?_
  intro _ _
  refine wf ?_
  refine wa ?_
  (refine TE.drawK (fun i=>Nat.beq i 0 || Nat.beq i 4) (by rfl) (by rfl) (by rfl) ?_)
  refine wf ?_
  (refine StepL.law rfl rfl rfl (fun _ h=>nomatch h) rfl (m_mpGet (mpI false) rfl (Tryz.underlying80) (Tryz.underlying3) rfl rfl rfl (hg2) rfl) (by rfl) ?_;rintro _ rfl)
  refine wf ?_
  (refine StepL.law rfl rfl rfl (fun _ h=>nomatch h) rfl (m_mpUp (mpI false) rfl rfl (Tryz.underlying80) (Tryz.underlying3) rfl rfl rfl rfl rfl) (by rfl) ?_;rintro _ rfl)
  refine wf ?_
  refine wa ?_
  (refine TE.ret' io rfl tysOk (()) ?_ rfl (by rfl) ?_;all_goals (try (first|exact trivial|((with_reducible refine AllP.go ?_);dsimp only [AllP,appP];repeat' (first|refine And.intro ?_ ?_|exact zz)))))
  all_goals exact congrArg (AO.mp false) hp2
abbrev ckJ (j:Nat) (c:Ck):List Chunk:=[.box 0 132 [.own j,.c (.bool c.file),.own 1,.own 2,.c (.int .i64 c.first.length)],.obj 1 (.mp true (ents ndDs 1 c.first)),.obj 2 (.mp false (ents cnDs 1 c.count)),.own j 181 2 (opC c.dirs)]
def placeK (c:Ck) (n:Nd):Ck:=if placeF c n=0 then { c with dirs:=placeD c n } else c
theorem op_set {l:List (Int×ByteArray)} {i:Nat} {z:Int} {s:ByteArray} (h:i<l.length):LeDC 2 (setC (setC (opC l) i 0 (.c (.int .i64 z))) i 1 (.c (.string s))) (opC (l.set i (z,s))):=by
 refine ⟨(List.length_set ..).symm,fun a j ha hj=>LeX.of_eq ?_⟩
 show (if a=i∧j=1 then _ else if a=i∧j=0 then _ else opR (l.getD a dd0) j)=opR ((l.set i (z,s)).getD a dd0) j
 rw [getD_set h]
 by_cases e:a=i
 ·subst e
  rw [if_pos rfl]
  rcases j with _ | _ | j
  ·rw [if_neg (fun k=>absurd k.2 (by decide)),if_pos ⟨rfl,rfl⟩];rfl
  ·rw [if_pos ⟨rfl,rfl⟩];rfl
  ·omega
 ·rw [if_neg (fun k=>e k.1),if_neg (fun k=>e k.1),if_neg e]
theorem op_fin {l:List (Int×ByteArray)} {k:Nat} (h:k≤l.length):LeDC 2 (appC (headC (opC l) k) (litC [[.c (.int .i64 0),.c (.string eS)]])) (opC (l.take k++[dd0])):=by
 have hk:(l.take k).length=k:=by rw [List.length_take];omega
 refine ⟨by show k+1=(l.take k++[dd0]).length;rw [List.length_append,hk];rfl,fun a j ha hj=>LeX.of_eq ?_⟩
 show (if a<k then opR (l.getD a dd0) j else _)=opR ((l.take k++[dd0]).getD a dd0) j
 have ha:a<k+1:=ha
 rw [getD_snoc,hk]
 by_cases e:a<k
 ·rw [if_pos e,if_pos e,getD_take e]
 ·obtain rfl:a=k:=by omega
  rw [if_neg e,if_neg e,if_pos rfl]
  show nthD (nthR [[DC.c (.int .i64 0),DC.c (.string eS)]] (a - a)) j=opR dd0 j
  rw [Nat.sub_self]
  rcases j with _ | _ | j
  ·rfl
  ·rfl
  ·omega
theorem gtr_iff {a b:ByteArray}:At.ltS b a=true↔Op.bytesLess a.data.toList b.data.toList=false∧a≠b:=by
 constructor
 ·intro h
  exact ⟨At.ltS_asymm h,fun e=>At.ltS_ne h e.symm⟩
 ·rintro ⟨h1,h2⟩
  cases h:At.ltS b a
  ·exact absurd (At.ltS_tri h1 h) h2
  ·rfl
theorem place_c (c:Ck) (n:Nd) (hns:n.name.size≤1000000000) (hd:c.dirs.length≤1000) (hz:∀ x∈c.dirs,0≤x.1∧x.1≤24):Con Tryz.prog 122 [.o (.ptr 0 0),.g (ndA n)] (ckH c) 4 5 U (fun _=>.o (.c (.int .i64 (placeF c n)))) (fun _=>ckJ 4 (placeK c n)):=by
 refine con_of Tryz.func122 rfl (by kernel_rfl) Tryz.ntmps122 rfl (by first | exact Nat.zero_le _ | decide) (fun _=>⟨rfl,rfl⟩) fun w S ν=>?_
 have hdn:(opC c.dirs).n=c.dirs.length:=rfl
 by_cases h0:c.dirs=[]
 ·have h00:c.dirs.length=0:=by rw [h0];rfl
  have hF:placeF c n=if n.depth≠0∨n.name.size≠0∨n.kind≠1 then 6 else 0:=if_pos h0
  by_cases h1:n.depth≠0∨n.name.size≠0∨n.kind≠1
  ·rw [if_pos h1] at hF
   have hK:placeK c n=c:=by unfold placeK;rw [if_neg (by rw [hF];decide)]
   rw [hF,hK]
   (repeat' (first|(with_reducible refine AllP.go ?_;first|exact og|((try simp only [OS]);repeat' (first|exact oj|refine And.intro ?_ ?_)))|(refine rg ?_ ?_)|(with_reducible first|refine stp ?_|refine tD rfl ?_)|refine ct ?_|refine cf ?_|((first|refine gs ?_ ?_|refine gl ?_ ?_|refine gc ?_ ?_)<;>intro h<;>(try simp only [NS] at h)<;>(try exact xf)<;>(try refine rn ?_ ?_))))
   all_goals exact po
  ·rw [if_neg h1] at hF
   have hK:placeK c n={ c with dirs:=[dd0] }:=by unfold placeK placeD;rw [if_pos hF,if_pos h0]
   rw [hF,hK]
   refine wa ?_
   (refine TE.ret' io rfl tysOk (()) ?_ rfl (by rfl) ?_;all_goals (try (first|exact trivial|((with_reducible refine AllP.go ?_);dsimp only [AllP,appP];repeat' (first|refine And.intro ?_ ?_|exact zz)))))
   rw [h0]
   exact listC_snoc (l:=[]) dd0 rfl (nth2 rfl rfl)
 have hpos:0<c.dirs.length:=List.length_pos_iff.2 h0
 have hF0:placeF c n=if n.depth<1∨mostS c<n.depth then 6 else if 8<n.depth then 3 else if pnameE n.name≠0 then pnameE n.name else if 0<(dirAt c n).1∧(dirAt c n).2=n.name then 8 else if 0<(dirAt c n).1∧At.ltS n.name (dirAt c n).2=true then 6 else if (dirAt c n).1=24 then 3 else 0:=if_neg h0
 have hm:mostS c=(c.dirs.length:Int) - (if c.file=true then 1 else 0):=rfl
 have hmv:∃ m:Int,m=mostS c∧0≤m∧m≤c.dirs.length:=⟨_,rfl,by rw [hm];split<;>omega,by rw [hm];split<;>omega⟩
 obtain ⟨most,hmo,hm1,hm2⟩:=hmv
 rw [← hmo] at hF0 hm
 (refine TE.seq ?_;(refine TE.rgo tysOk rfl (by rfl) (by (first | exact trivial | exact fun i _=>⟨_,rfl⟩ | ((try simp only [OS]);repeat' (first | omega | exact fun i _=>⟨_,rfl⟩ | refine And.intro ?_ ?_)))) ?_);refine TE.done ?_;refine TE.thenN ?_)
 (refine TE.seqM (ι:=Unit) (fun _=>True) (fun _=>⟨[(3,.o (.ptr 4 0)),(0,.o (.ptr 0 0))],.box 4 53 (ndA n) :: ckH c,5⟩) ?_ fun _ _=>?_)
 ·refine wa ?_
  exact aa
 (refine TE.seq ?_;(refine TE.rgo tysOk rfl (by rfl) (by (first | exact trivial | exact fun i _=>⟨_,rfl⟩ | ((try simp only [OS]);repeat' (first | omega | exact fun i _=>⟨_,rfl⟩ | refine And.intro ?_ ?_)))) ?_);refine TE.done ?_;refine TE.thenN ?_)
 (refine TE.seqM (ι:=Unit) (fun _=>True) (fun _=>⟨[(5,.o (.c (.int .i64 most))),(3,.o (.ptr 4 0)),(0,.o (.ptr 0 0))],.box 4 53 (ndA n) :: ckH c,5⟩) ?_ fun _ _=>?_)
 ·cases hfl:c.file
  ·rw [hfl,if_neg (by decide)] at hm
   refine wa ?_
   (refine TE.at () trivial ?_;(refine Ent.of rfl rfl (by rfl) ?_;(try (first|exact trivial|((with_reducible refine AllP.go ?_);dsimp only [AllP,appP];repeat' (first|refine And.intro ?_ ?_|exact zz))))))
   all_goals exact congrArg Value.bool hfl.symm
  ·rw [hfl,if_pos rfl] at hm
   refine wa ?_
   (refine TE.at () trivial ?_;(refine Ent.of rfl rfl (by rfl) ?_;(try (first|exact trivial|((with_reducible refine AllP.go ?_);dsimp only [AllP,appP];repeat' (first|refine And.intro ?_ ?_|exact zz))))))
   all_goals exact congrArg Value.bool hfl.symm
 by_cases h1:n.depth<1∨most<n.depth
 ·rw [if_pos h1] at hF0
  have hK:placeK c n=c:=by unfold placeK;rw [if_neg (by rw [hF0];decide)]
  rw [hF0,hK]
  (repeat' (first|(with_reducible refine AllP.go ?_;first|exact og|((try simp only [OS]);repeat' (first|exact oj|refine And.intro ?_ ?_)))|(refine rg ?_ ?_)|(with_reducible first|refine stp ?_|refine tD rfl ?_)|refine ct ?_|refine cf ?_|((first|refine gs ?_ ?_|refine gl ?_ ?_|refine gc ?_ ?_)<;>intro h<;>(try simp only [NS] at h)<;>(try exact xf)<;>(try refine rn ?_ ?_))))
  all_goals exact po
 rw [if_neg h1] at hF0
 by_cases h2:8<n.depth
 ·rw [if_pos h2] at hF0
  have hK:placeK c n=c:=by unfold placeK;rw [if_neg (by rw [hF0];decide)]
  rw [hF0,hK]
  refine wa ?_
  all_goals exact po
 rw [if_neg h2] at hF0
 refine wa ?_
 refine cw (pName_c n.name hns) ?_
 intro _ _
 by_cases h3:pnameE n.name≠0
 ·rw [if_pos h3] at hF0
  have hK:placeK c n=c:=by unfold placeK;rw [if_neg (by rw [hF0];exact h3)]
  rw [hF0,hK]
  refine wb ?_
  all_goals exact po
 rw [if_neg h3] at hF0
 refine wb ?_
 (refine TE.only [3,0] (by rfl) ?_)
 refine we ?_
 (refine TE.only [7,3,0] (by rfl) ?_)
 have hDm:=hz _ (getD_mem (l:=c.dirs) (d:=dd0) (k:=(n.depth - 1).toNat) (by omega))
 by_cases h4:0<(dirAt c n).1∧(dirAt c n).2=n.name
 ·rw [if_pos h4] at hF0
  have hK:placeK c n=c:=by unfold placeK;rw [if_neg (by rw [hF0];decide)]
  rw [hF0,hK]
  unfold dirAt at h4
  refine wa ?_
  ((refine dn ?_);repeat' (first|(with_reducible refine AllP.go ?_;first|exact og|((try simp only [OS]);repeat' (first|exact oj|refine And.intro ?_ ?_)))|(with_reducible first|exact PanicOk.body|exact rd.panic|refine PanicOk.then' ?_|refine PanicOk.block ?_|refine PanicOk.jump ?_)|(refine TL.done (by rfl) ?_)|(refine TL.auto tysOk rfl ?_ (by rfl) ?_ ?_)|((refine TL.one (by rfl) ?_);first|(refine sm ?_ ?_)|(refine sp ?_ ?_)|(refine StepL.law rfl rfl rfl (fun _ h=>nomatch h) rfl (m_nilO rfl rfl) (by rfl) ?_;rintro _ rfl)|(refine StepL.law rfl rfl rfl (fun _ h=>nomatch h) rfl (m_cutOwn tysOk rfl (und_slice tysOk rfl) rfl rfl rfl rfl rfl ?_) (by rfl) ?_;rotate_left;rintro _ rfl;rotate_right;first|omega|skip))|(refine sm ?_ ?_)|((first|refine gl ?_ ?_|refine gc ?_ ?_)<;>intro h<;>(try simp only [NS] at h)<;>(try exact xf))|(refine TL.two (by rfl) ?_ ?_)|(refine TL.three (by rfl) ?_ ?_ ?_)|(refine TL.four (by rfl) ?_ ?_ ?_ ?_)))
  all_goals first | (exfalso;first | omega | exact absurd h4.2 (by assumption)) | skip
  all_goals refine wa ?_
  all_goals first | (exfalso;first | omega | exact absurd h4.2 (by assumption)) | skip
  all_goals exact po
 rw [if_neg h4] at hF0
 by_cases h5:0<(dirAt c n).1∧At.ltS n.name (dirAt c n).2=true
 ·rw [if_pos h5] at hF0
  have hK:placeK c n=c:=by unfold placeK;rw [if_neg (by rw [hF0];decide)]
  rw [hF0,hK]
  unfold dirAt at h4 h5
  refine wa ?_
  ((refine dn ?_);repeat' (first|(with_reducible refine AllP.go ?_;first|exact og|((try simp only [OS]);repeat' (first|exact oj|refine And.intro ?_ ?_)))|(with_reducible first|exact PanicOk.body|exact rd.panic|refine PanicOk.then' ?_|refine PanicOk.block ?_|refine PanicOk.jump ?_)|(refine TL.done (by rfl) ?_)|(refine TL.auto tysOk rfl ?_ (by rfl) ?_ ?_)|((refine TL.one (by rfl) ?_);first|(refine sm ?_ ?_)|(refine sp ?_ ?_)|(refine StepL.law rfl rfl rfl (fun _ h=>nomatch h) rfl (m_nilO rfl rfl) (by rfl) ?_;rintro _ rfl)|(refine StepL.law rfl rfl rfl (fun _ h=>nomatch h) rfl (m_cutOwn tysOk rfl (und_slice tysOk rfl) rfl rfl rfl rfl rfl ?_) (by rfl) ?_;rotate_left;rintro _ rfl;rotate_right;first|omega|skip))|(refine sm ?_ ?_)|((first|refine gl ?_ ?_|refine gc ?_ ?_)<;>intro h<;>(try simp only [NS] at h)<;>(try exact xf))|(refine TL.two (by rfl) ?_ ?_)|(refine TL.three (by rfl) ?_ ?_ ?_)|(refine TL.four (by rfl) ?_ ?_ ?_ ?_)))
  all_goals first | (exfalso;first | omega | exact h4 ⟨by assumption,by assumption⟩) | skip
  all_goals refine wa ?_
  all_goals first | (exfalso;first | omega | exact h4 ⟨by assumption,by assumption⟩) | skip
  rw [gtr_iff] at h5
  all_goals ((refine dn ?_);repeat' (first|(with_reducible refine AllP.go ?_;first|exact og|((try simp only [OS]);repeat' (first|exact oj|refine And.intro ?_ ?_)))|(with_reducible first|exact PanicOk.body|exact rd.panic|refine PanicOk.then' ?_|refine PanicOk.block ?_|refine PanicOk.jump ?_)|(refine TL.done (by rfl) ?_)|(refine TL.auto tysOk rfl ?_ (by rfl) ?_ ?_)|((refine TL.one (by rfl) ?_);first|(refine sm ?_ ?_)|(refine sp ?_ ?_)|(refine StepL.law rfl rfl rfl (fun _ h=>nomatch h) rfl (m_nilO rfl rfl) (by rfl) ?_;rintro _ rfl)|(refine StepL.law rfl rfl rfl (fun _ h=>nomatch h) rfl (m_cutOwn tysOk rfl (und_slice tysOk rfl) rfl rfl rfl rfl rfl ?_) (by rfl) ?_;rotate_left;rintro _ rfl;rotate_right;first|omega|skip))|(refine sm ?_ ?_)|((first|refine gl ?_ ?_|refine gc ?_ ?_)<;>intro h<;>(try simp only [NS] at h)<;>(try exact xf))|(refine TL.two (by rfl) ?_ ?_)|(refine TL.three (by rfl) ?_ ?_ ?_)|(refine TL.four (by rfl) ?_ ?_ ?_ ?_)))
  all_goals first | (exfalso;simp_all;done) | skip
  all_goals refine wa ?_
  all_goals exact po
 rw [if_neg h5] at hF0
 by_cases h6:(dirAt c n).1=24
 ·rw [if_pos h6] at hF0
  have hK:placeK c n=c:=by unfold placeK;rw [if_neg (by rw [hF0];decide)]
  rw [hF0,hK]
  rw [gtr_iff] at h5
  unfold dirAt at h4 h5 h6
  refine wa ?_
  ((refine dn ?_);repeat' (first|(with_reducible refine AllP.go ?_;first|exact og|((try simp only [OS]);repeat' (first|exact oj|refine And.intro ?_ ?_)))|(with_reducible first|exact PanicOk.body|exact rd.panic|refine PanicOk.then' ?_|refine PanicOk.block ?_|refine PanicOk.jump ?_)|(refine TL.done (by rfl) ?_)|(refine TL.auto tysOk rfl ?_ (by rfl) ?_ ?_)|((refine TL.one (by rfl) ?_);first|(refine sm ?_ ?_)|(refine sp ?_ ?_)|(refine StepL.law rfl rfl rfl (fun _ h=>nomatch h) rfl (m_nilO rfl rfl) (by rfl) ?_;rintro _ rfl)|(refine StepL.law rfl rfl rfl (fun _ h=>nomatch h) rfl (m_cutOwn tysOk rfl (und_slice tysOk rfl) rfl rfl rfl rfl rfl ?_) (by rfl) ?_;rotate_left;rintro _ rfl;rotate_right;first|omega|skip))|(refine sm ?_ ?_)|((first|refine gl ?_ ?_|refine gc ?_ ?_)<;>intro h<;>(try simp only [NS] at h)<;>(try exact xf))|(refine TL.two (by rfl) ?_ ?_)|(refine TL.three (by rfl) ?_ ?_ ?_)|(refine TL.four (by rfl) ?_ ?_ ?_ ?_)))
  all_goals first | (exfalso;first | omega | exact h4 ⟨by assumption,by assumption⟩) | skip
  all_goals refine wa ?_
  all_goals first | (exfalso;first | omega | exact h4 ⟨by assumption,by assumption⟩) | skip
  all_goals ((refine dn ?_);repeat' (first|(with_reducible refine AllP.go ?_;first|exact og|((try simp only [OS]);repeat' (first|exact oj|refine And.intro ?_ ?_)))|(with_reducible first|exact PanicOk.body|exact rd.panic|refine PanicOk.then' ?_|refine PanicOk.block ?_|refine PanicOk.jump ?_)|(refine TL.done (by rfl) ?_)|(refine TL.auto tysOk rfl ?_ (by rfl) ?_ ?_)|((refine TL.one (by rfl) ?_);first|(refine sm ?_ ?_)|(refine sp ?_ ?_)|(refine StepL.law rfl rfl rfl (fun _ h=>nomatch h) rfl (m_nilO rfl rfl) (by rfl) ?_;rintro _ rfl)|(refine StepL.law rfl rfl rfl (fun _ h=>nomatch h) rfl (m_cutOwn tysOk rfl (und_slice tysOk rfl) rfl rfl rfl rfl rfl ?_) (by rfl) ?_;rotate_left;rintro _ rfl;rotate_right;first|omega|skip))|(refine sm ?_ ?_)|((first|refine gl ?_ ?_|refine gc ?_ ?_)<;>intro h<;>(try simp only [NS] at h)<;>(try exact xf))|(refine TL.two (by rfl) ?_ ?_)|(refine TL.three (by rfl) ?_ ?_ ?_)|(refine TL.four (by rfl) ?_ ?_ ?_ ?_)))
  all_goals first | (exfalso;first | omega | exact h5 ⟨by assumption,by assumption⟩) | skip
  all_goals refine wa ?_
  all_goals first | (exfalso;first | omega | exact h5 ⟨by assumption,by assumption⟩) | skip
  all_goals ((refine TE.step rfl rfl rfl (fun _ h=>nomatch h) (m_nilO rfl rfl) ?_;rintro _ rfl);((refine rn ?_ ?_);(repeat' (first|(with_reducible refine AllP.go ?_;first|exact og|((try simp only [OS]);repeat' (first|exact oj|refine And.intro ?_ ?_)))|(refine rg ?_ ?_)|(with_reducible first|refine stp ?_|refine tD rfl ?_)|refine ct ?_|refine cf ?_|((first|refine gs ?_ ?_|refine gl ?_ ?_|refine gc ?_ ?_)<;>intro h<;>(try simp only [NS] at h)<;>(try exact xf)<;>(try refine rn ?_ ?_))))))
  all_goals exact po
 rw [if_neg h6] at hF0
 (refine TE.seqM (ι:=Unit) (fun _=>True) (fun _=>⟨[(7,.o (.optr 3 2 (n.depth - 1).toNat 0)),(3,.o (.ptr 4 0)),(0,.o (.ptr 0 0))],.box 4 53 (ndA n) :: ckH c,5⟩) ?_ fun _ _=>?_)
 ·rw [gtr_iff] at h5
  unfold dirAt at h4 h5 h6
  refine wa ?_
  ((refine dn ?_);repeat' (first|(with_reducible refine AllP.go ?_;first|exact og|((try simp only [OS]);repeat' (first|exact oj|refine And.intro ?_ ?_)))|(with_reducible first|exact PanicOk.body|exact rd.panic|refine PanicOk.then' ?_|refine PanicOk.block ?_|refine PanicOk.jump ?_)|(refine TL.done (by rfl) ?_)|(refine TL.auto tysOk rfl ?_ (by rfl) ?_ ?_)|((refine TL.one (by rfl) ?_);first|(refine sm ?_ ?_)|(refine sp ?_ ?_)|(refine StepL.law rfl rfl rfl (fun _ h=>nomatch h) rfl (m_nilO rfl rfl) (by rfl) ?_;rintro _ rfl)|(refine StepL.law rfl rfl rfl (fun _ h=>nomatch h) rfl (m_cutOwn tysOk rfl (und_slice tysOk rfl) rfl rfl rfl rfl rfl ?_) (by rfl) ?_;rotate_left;rintro _ rfl;rotate_right;first|omega|skip))|(refine sm ?_ ?_)|((first|refine gl ?_ ?_|refine gc ?_ ?_)<;>intro h<;>(try simp only [NS] at h)<;>(try exact xf))|(refine TL.two (by rfl) ?_ ?_)|(refine TL.three (by rfl) ?_ ?_ ?_)|(refine TL.four (by rfl) ?_ ?_ ?_ ?_)))
  all_goals first | (exfalso;first | omega | exact h4 ⟨by assumption,by assumption⟩) | skip
  all_goals refine wa ?_
  all_goals first | (exfalso;first | omega | exact h4 ⟨by assumption,by assumption⟩) | skip
  all_goals ((refine dn ?_);repeat' (first|(with_reducible refine AllP.go ?_;first|exact og|((try simp only [OS]);repeat' (first|exact oj|refine And.intro ?_ ?_)))|(with_reducible first|exact PanicOk.body|exact rd.panic|refine PanicOk.then' ?_|refine PanicOk.block ?_|refine PanicOk.jump ?_)|(refine TL.done (by rfl) ?_)|(refine TL.auto tysOk rfl ?_ (by rfl) ?_ ?_)|((refine TL.one (by rfl) ?_);first|(refine sm ?_ ?_)|(refine sp ?_ ?_)|(refine StepL.law rfl rfl rfl (fun _ h=>nomatch h) rfl (m_nilO rfl rfl) (by rfl) ?_;rintro _ rfl)|(refine StepL.law rfl rfl rfl (fun _ h=>nomatch h) rfl (m_cutOwn tysOk rfl (und_slice tysOk rfl) rfl rfl rfl rfl rfl ?_) (by rfl) ?_;rotate_left;rintro _ rfl;rotate_right;first|omega|skip))|(refine sm ?_ ?_)|((first|refine gl ?_ ?_|refine gc ?_ ?_)<;>intro h<;>(try simp only [NS] at h)<;>(try exact xf))|(refine TL.two (by rfl) ?_ ?_)|(refine TL.three (by rfl) ?_ ?_ ?_)|(refine TL.four (by rfl) ?_ ?_ ?_ ?_)))
  all_goals first | (exfalso;first | omega | exact h5 ⟨by assumption,by assumption⟩) | skip
  all_goals refine wa ?_
  all_goals first | (exfalso;first | omega | exact h5 ⟨by assumption,by assumption⟩) | skip
  all_goals ((refine TE.step rfl rfl rfl (fun _ h=>nomatch h) (m_nilO rfl rfl) ?_;rintro _ rfl);((refine rn ?_ ?_);(repeat' (first|(with_reducible refine AllP.go ?_;first|exact og|((try simp only [OS]);repeat' (first|exact oj|refine And.intro ?_ ?_)))|(refine rg ?_ ?_)|(with_reducible first|refine stp ?_|refine tD rfl ?_)|refine ct ?_|refine cf ?_|((first|refine gs ?_ ?_|refine gl ?_ ?_|refine gc ?_ ?_)<;>intro h<;>(try simp only [NS] at h)<;>(try exact xf)<;>(try refine rn ?_ ?_))))))
  all_goals exact aa
 have hK:placeK c n={ c with dirs:=placeD c n }:=by unfold placeK;rw [if_pos hF0]
 rw [hF0,hK]
 unfold dirAt at h4 h5 h6
 have hlt:(n.depth - 1).toNat<c.dirs.length:=by omega
 have hnn:(opC ({ c with dirs:=c.dirs.set (n.depth - 1).toNat ((dirAt c n).1+1,n.name) }:Ck).dirs).n=c.dirs.length:=List.length_set ..
 have hpd:placeD c n=(c.dirs.set (n.depth - 1).toNat ((dirAt c n).1+1,n.name)).take n.depth.toNat++[dd0]:=if_neg h0
 (refine TE.seqM (ι:=Unit) (fun _=>True) (fun _=>⟨[(3,.o (.ptr 4 0)),(0,.o (.ptr 0 0))],.box 4 53 (ndA n) :: ckH { c with dirs:=c.dirs.set (n.depth - 1).toNat ((dirAt c n).1+1,n.name) },5⟩) ?_ fun _ _=>?_)
 ·refine wa ?_
  ((refine TE.drawK (fun _=>false) (by rfl) (by rfl) (by rfl) ?_);(repeat' (first|(with_reducible refine AllP.go ?_;first|exact og|((try simp only [OS]);repeat' (first|exact oj|refine And.intro ?_ ?_)))|(with_reducible first|exact PanicOk.body|exact rd.panic|refine PanicOk.then' ?_|refine PanicOk.block ?_|refine PanicOk.jump ?_)|(refine TL.done (by rfl) ?_)|(refine TL.auto tysOk rfl ?_ (by rfl) ?_ ?_)|((refine TL.one (by rfl) ?_);first|(refine sm ?_ ?_)|(refine sp ?_ ?_)|(refine StepL.law rfl rfl rfl (fun _ h=>nomatch h) rfl (m_nilO rfl rfl) (by rfl) ?_;rintro _ rfl)|(refine StepL.law rfl rfl rfl (fun _ h=>nomatch h) rfl (m_cutOwn tysOk rfl (und_slice tysOk rfl) rfl rfl rfl rfl rfl ?_) (by rfl) ?_;rotate_left;rintro _ rfl;rotate_right;first|omega|skip))|(refine sm ?_ ?_)|(refine sp ?_ ?_)|(refine StepL.law rfl rfl rfl (fun _ h=>nomatch h) rfl (m_nilO rfl rfl) (by rfl) ?_;rintro _ rfl)|(refine StepL.law rfl rfl rfl (fun _ h=>nomatch h) rfl (m_cutOwn tysOk rfl (und_slice tysOk rfl) rfl rfl rfl rfl rfl ?_) (by rfl) ?_;rotate_left;rintro _ rfl;rotate_right;first|omega|skip)|((first|refine gl ?_ ?_|refine gc ?_ ?_)<;>intro h<;>(try simp only [NS] at h)<;>(try exact xf))|(refine TL.two (by rfl) ?_ ?_)|(refine TL.three (by rfl) ?_ ?_ ?_)|(refine TL.four (by rfl) ?_ ?_ ?_ ?_))))
  all_goals (refine TE.at () trivial ?_;(refine Ent.of rfl rfl (by rfl) ?_;(try (first|exact trivial|((with_reducible refine AllP.go ?_);dsimp only [AllP,appP];repeat' (first|refine And.intro ?_ ?_|exact zz))))))
  all_goals exact op_set hlt
 refine wa ?_
 ((refine TE.drawK (fun _=>false) (by rfl) (by rfl) (by rfl) ?_);(repeat' (first|(with_reducible refine AllP.go ?_;first|exact og|((try simp only [OS]);repeat' (first|exact oj|refine And.intro ?_ ?_)))|(with_reducible first|exact PanicOk.body|exact rd.panic|refine PanicOk.then' ?_|refine PanicOk.block ?_|refine PanicOk.jump ?_)|(refine TL.done (by rfl) ?_)|(refine TL.auto tysOk rfl ?_ (by rfl) ?_ ?_)|((refine TL.one (by rfl) ?_);first|(refine sm ?_ ?_)|(refine sp ?_ ?_)|(refine StepL.law rfl rfl rfl (fun _ h=>nomatch h) rfl (m_nilO rfl rfl) (by rfl) ?_;rintro _ rfl)|(refine StepL.law rfl rfl rfl (fun _ h=>nomatch h) rfl (m_cutOwn tysOk rfl (und_slice tysOk rfl) rfl rfl rfl rfl rfl ?_) (by rfl) ?_;rotate_left;rintro _ rfl;rotate_right;first|omega|skip))|(refine sm ?_ ?_)|(refine sp ?_ ?_)|(refine StepL.law rfl rfl rfl (fun _ h=>nomatch h) rfl (m_nilO rfl rfl) (by rfl) ?_;rintro _ rfl)|(refine StepL.law rfl rfl rfl (fun _ h=>nomatch h) rfl (m_cutOwn tysOk rfl (und_slice tysOk rfl) rfl rfl rfl rfl rfl ?_) (by rfl) ?_;rotate_left;rintro _ rfl;rotate_right;first|omega|skip)|((first|refine gl ?_ ?_|refine gc ?_ ?_)<;>intro h<;>(try simp only [NS] at h)<;>(try exact xf))|(refine TL.two (by rfl) ?_ ?_)|(refine TL.three (by rfl) ?_ ?_ ?_)|(refine TL.four (by rfl) ?_ ?_ ?_ ?_))))
 all_goals refine wa ?_
 all_goals (refine TE.ret' io rfl tysOk (()) ?_ rfl (by rfl) ?_;all_goals (try (first|exact trivial|((with_reducible refine AllP.go ?_);dsimp only [AllP,appP];repeat' (first|refine And.intro ?_ ?_|exact zz)))))
 all_goals (rw [hpd];exact op_fin (by rw [List.length_set];omega))
def okN (x:Nd):Prop:=x.attrs.length≤1000000∧At.sizeI x.attrs≤1000000000∧x.name.size≤1000000000
def ckNode (c:Ck) (n:Nd):Ck→Prop:=fun c'=>nodeF c n=0→c' = nodeD c n
theorem cknode_c (c:Ck) (n:Nd) (hn:okN n) (hd:c.dirs.length≤1000) (hz:∀ x∈c.dirs,0≤x.1∧x.1≤24) (hf:∀ x∈c.first,lenN x) (hl:c.count.length=c.first.length) (hcn:∀ z∈c.count,0≤z∧z≤1000000) (hfl:c.first.length≤1000000):Con Tryz.prog 94 [.o (.ptr 0 0),.g (ndA n)] (ckH c) 4 5 (ckNode c n) (fun _=>.o (.c (.int .i64 (nodeF c n)))) (fun c'=>ckJ 4 c'):=by
 refine con_of Tryz.func94 rfl (by kernel_rfl) Tryz.ntmps94 rfl (by first | exact Nat.zero_le _ | decide) (fun _=>⟨rfl,rfl⟩) fun w S ν=>?_
 obtain ⟨hn1,hn2,hn3⟩:=hn
 refine wa ?_
 refine cw (place_c c n hn3 hd hz) ?_
 intro _ _
 by_cases h1:placeF c n≠0
 ·have hF:nodeF c n=placeF c n:=if_pos h1
  have hF0:nodeF c n≠0:=by rw [hF];exact h1
  have hK:placeK c n=c:=by unfold placeK;rw [if_neg h1]
  rw [hF,hK]
  refine wb ?_
  (refine TE.ret' io rfl tysOk (c) ?_ rfl (by rfl) ?_;all_goals (try (first|exact trivial|((with_reducible refine AllP.go ?_);dsimp only [AllP,appP];repeat' (first|refine And.intro ?_ ?_|exact zz)))))
  exact fun k=>absurd k hF0
 have h1:=Decidable.not_not.1 h1
 have hK:placeK c n={ c with dirs:=placeD c n }:=by unfold placeK;rw [if_pos h1]
 rw [hK]
 refine wb ?_
 refine cw (fields_c n) ?_
 intro _ _
 by_cases h2:fieldsE n≠0
 ·have hF:nodeF c n=fieldsE n:=by unfold nodeF;rw [if_neg (fun k=>k h1),if_pos h2]
  have hF0:nodeF c n≠0:=by rw [hF];exact h2
  rw [hF]
  refine wb ?_
  (refine TE.ret' io rfl tysOk (({ c with dirs:=placeD c n }:Ck)) ?_ rfl (by rfl) ?_;all_goals (try (first|exact trivial|((with_reducible refine AllP.go ?_);dsimp only [AllP,appP];repeat' (first|refine And.intro ?_ ?_|exact zz)))))
  exact fun k=>absurd k hF0
 have h2:=Decidable.not_not.1 h2
 refine wb ?_
 refine cw (Check_c n.attrs hn1 hn2) ?_
 intro _ _
 by_cases h3:At.checkE n.attrs≠0
 ·have hF:nodeF c n=At.checkE n.attrs:=by unfold nodeF;rw [if_neg (fun k=>k h1),if_neg (fun k=>k h2),if_pos h3]
  have hF0:nodeF c n≠0:=by rw [hF];exact h3
  rw [hF]
  refine wb ?_
  (refine TE.ret' io rfl tysOk (({ c with dirs:=placeD c n }:Ck)) ?_ rfl (by rfl) ?_;all_goals (try (first|exact trivial|((with_reducible refine AllP.go ?_);dsimp only [AllP,appP];repeat' (first|refine And.intro ?_ ?_|exact zz)))))
  exact fun k=>absurd k hF0
 have h3:=Decidable.not_not.1 h3
 have hF:nodeF c n=classF c n:=by unfold nodeF;rw [if_neg (fun k=>k h1),if_neg (fun k=>k h2),if_neg (fun k=>k h3)]
 rw [hF]
 have hcc:=class_c { c with dirs:=placeD c n,file:=decide (n.kind≠1) } n hn1 hf hl hcn hfl
 refine wb ?_
 have hb0:(!decide (n.kind=1))=decide (n.kind≠1):=by simp
 refine cw (hcc) ?_
 intro _ _
 refine wb ?_
 (refine TE.ret' io rfl tysOk (classK { c with dirs:=placeD c n,file:=decide (n.kind≠1) } n) ?_ rfl (by rfl) ?_;all_goals (try (first|exact trivial|((with_reducible refine AllP.go ?_);dsimp only [AllP,appP];repeat' (first|refine And.intro ?_ ?_|exact zz)))))
 intro k
 rw [hF] at k
 exact if_pos k
def loneP (l:List Nd) (x:Nd):Bool:=decide (0<x.cls∧countC l x.cls=1)
def loneI (l:List Nd):Int:=match loneAt l l 0 with
 | some i=>i
 | none=>-1
def CntOk (l:List Nd) (c:Ck) (x:Nd):Prop:=0≤x.cls∧(0<x.cls→(x.cls - 1).toNat<c.count.length∧c.count.getD (x.cls - 1).toNat 0=(countC l x.cls:Nat))
abbrev ckV (b f k d:Nat) (c:Ck):List Chunk:=[.box b 132 [.own d,.c (.bool c.file),.own f,.own k,.c (.int .i64 c.first.length)],.obj f (.mp true (ents ndDs 1 c.first)),.obj k (.mp false (ents cnDs 1 c.count)),.own d 181 2 (opC c.dirs)]
abbrev ckC (c:Ck):List Chunk:=.box 3 128 [.ptr 2 0] :: ckV 2 0 1 4 c
theorem lone_c (l:List Nd) (c:Ck) (x:Nd) (hx:CntOk l c x):Con Tryz.prog 96 [.g (ndA x),.o (.ptr 3 0)] (ckC c) 5 5 U (fun _=>.o (.sb (loneP l x))) (fun _=>ckC c):=by
 refine con_of Tryz.func96 rfl (by kernel_rfl) Tryz.ntmps96 rfl (by first | exact Nat.zero_le _ | decide) (fun _=>⟨rfl,rfl⟩) fun w S ν=>?_
 obtain ⟨h0,h1⟩:=hx
 by_cases h2:0<x.cls
 ·obtain ⟨h3,h4⟩:=h1 h2
  have hg:getM (ents cnDs 1 c.count) x.cls=some (cnDs (c.count.getD (x.cls - 1).toNat 0)):=get_ents 0 _ _ _ (by omega) (by omega)
  rw [h4] at hg
  refine wa ?_
  refine we ?_
  (refine TL.one (by rfl) ?_)
  (refine StepL.law rfl rfl rfl (fun _ h=>nomatch h) rfl (m_mpGet (mpI false) rfl (Tryz.underlying80) (Tryz.underlying3) rfl rfl rfl (hg) rfl) (by rfl) ?_;rintro _ rfl)
  refine wf ?_
  refine wa ?_
  (refine TE.ret' io rfl tysOk (()) ?_ rfl (by rfl) ?_;all_goals (try (first|exact trivial|((with_reducible refine AllP.go ?_);dsimp only [AllP,appP];repeat' (first|refine And.intro ?_ ?_|exact zz)))))
  unfold loneP
  simp only [decide_eq_decide]
  omega
 ·refine wa ?_
  refine we ?_
  all_goals refine wa ?_
  all_goals (refine TE.ret' io rfl tysOk (()) ?_ rfl (by rfl) ?_;all_goals (try (first|exact trivial|((with_reducible refine AllP.go ?_);dsimp only [AllP,appP];repeat' (first|refine And.intro ?_ ?_|exact zz)))))
  all_goals refine congrArg Value.bool (Eq.symm (decide_eq_false ?_))
  omega
theorem loneIdx_c (l:List Nd) (c:Ck) (hl:l.length≤1000000) (hx:∀ x∈l,CntOk l c x):Con Tryz.prog 95 [.o (.ro 8 l.length (ndC l).cell),.o (.clo 96 [(3,0)])] (ckC c) 5 5 U (fun _=>.o (.c (.int .i64 (loneI l)))) (fun _=>ckC c):=by
 refine con_of Tryz.func95 rfl (by kernel_rfl) Tryz.ntmps95 rfl (by first | exact Nat.zero_le _ | decide) (fun _=>⟨rfl,rfl⟩) fun w S ν=>?_
 refine wa ?_
 refine TE.loopG (fun q:Nat=>q≤l.length∧∀ j,j<q→¬ (0<(l.getD j n0).cls∧countC l (l.getD j n0).cls=1)) (fun q=>[(8,.o (.c (.int .i64 q)))]) [] (fun _=>[]) (fun q=>l.length - q) 0 (by rfl) ⟨Nat.zero_le _,fun k hk=>absurd hk (Nat.not_lt_zero _)⟩ ?_ ?_
 ·exact ee
 rintro q ⟨h1,h2⟩
 by_cases hlt:q<l.length
 ·refine wa ?_
  refine cw (lone_c l c (l.getD q n0) (hx _ (getD_mem hlt))) ?_
  intro _ _
  by_cases h3:0<(l.getD q n0).cls∧countC l (l.getD q n0).cls=1
  ·have hI:loneI l=q:=by unfold loneI;rw [lone_at l 0 q hlt h2 h3,Nat.zero_add]
   rw [hI,show loneP l (l.getD q n0)=true from decide_eq_true h3]
   refine wb ?_
   exact po
  ·rw [show loneP l (l.getD q n0)=false from decide_eq_false h3]
   refine wb ?_
   refine TE.again' (q+1) ⟨by omega,fun k hk=>?_⟩ (by omega) ?_
   ·rcases Nat.lt_or_ge k q with h4 | h4
    ·exact h2 k h4
    ·obtain rfl:k=q:=by omega
     exact h3
   ·exact ee
 ·have hI:loneI l = -1:=by
   unfold loneI
   rw [lone_none l 0 fun x hx=>?_]
   obtain ⟨k,hk,rfl⟩:=List.getElem_of_mem hx
   have:=h2 k (by omega)
   rwa [List.getD_eq_getElem?_getD,List.getElem?_eq_getElem hk] at this
  rw [hI]
  refine wa ?_
  exact po
theorem okn_mem {l:List Nd} (h:∀ x∈l,okN x) {q:Nat} (hq:q<l.length):okN (l.getD q n0):=h _ (getD_mem hq)
theorem checkT_bad {l:List Nd} {q:Nat} {e:Int} (h1:l≠[]) (h2:l.length≤120) (h:errAt [] l 0=some (q,e)):checkT l=((q:Int),e):=by
 unfold checkT
 rw [if_neg h1,if_neg (by omega),h]
theorem checkT_good {l:List Nd} (h1:l≠[]) (h2:l.length≤120) (h:errAt [] l 0=none):checkT l=if 0≤loneI l then (loneI l,6) else (0,0):=by
 unfold checkT loneI
 rw [if_neg h1,if_neg (by omega),h]
 cases hl:loneAt l l 0 with
 | none=>rfl
 | some i=>rw [if_pos (by dsimp only;omega)]
structure ChI (l:List Nd) (q:Nat) (c:Ck):Prop where
 at' : ChkAt l q c
 dirs:c.dirs.length≤9
 first:c.first.length≤q
theorem chI_start (l:List Nd):ChI l 0 ck0:=⟨chk_start l,Nat.zero_le _,Nat.le_refl _⟩
theorem chI_next {l:List Nd} {q:Nat} {c:Ck} (g:ChI l q c) (h:q<l.length) (he:nodeF c (l.getD q n0)=0):ChI l (q+1) (nodeD c (l.getD q n0)):=by
 refine ⟨chk_next g.at' h he,?_,?_⟩
 ·have hp:placeF c (l.getD q n0)=0:=Decidable.byContradiction fun k=>by
   unfold nodeF at he;rw [if_pos k] at he;exact k he
  show (placeD c (l.getD q n0)).length≤9
  unfold placeD
  split
  ·decide
  ·rename_i hne
   unfold placeF at hp
   rw [if_neg hne] at hp
   split at hp
   ·exact absurd hp (by decide)
   split at hp
   ·exact absurd hp (by decide)
   rw [List.length_append,List.length_take]
   simp only [List.length_cons,List.length_nil]
   omega
 ·show (classD c (l.getD q n0)).1.length≤q+1
  have:=g.first
  unfold classD
  split
  ·dsimp only;omega
  split
  ·dsimp only;rw [List.length_append];simp only [List.length_cons,List.length_nil];omega
  ·dsimp only;omega
theorem mem_take_rev {l:List Nd} {q:Nat} {x:Nd} (h:x∈(l.take q).reverse):x∈l:=List.mem_of_mem_take (List.mem_reverse.1 h)
theorem mem_getD {α:Type} {l:List α} {d x:α} (h:x∈l):∃ k,k<l.length∧l.getD k d=x:=by
 obtain ⟨k,hk,rfl⟩:=List.getElem_of_mem h
 exact ⟨k,hk,by rw [List.getD_eq_getElem?_getD,List.getElem?_eq_getElem hk];rfl⟩
theorem chI_facts {l:List Nd} {q:Nat} {c:Ck} (g:ChI l q c) (hl:l.length≤1000) (hx:∀ x∈l,okN x):(∀ x∈c.dirs,0≤x.1∧x.1≤24)∧(∀ x∈c.first,lenN x)∧c.count.length=c.first.length∧(∀ z∈c.count,0≤z∧z≤1000000):=by
 have h:=g.at'.ok
 refine ⟨fun x hm=>?_,fun x hm=>?_,h.clen,fun z hm=>?_⟩
 ·obtain ⟨k,hk,rfl⟩:=mem_getD (d:=dd0) hm
  obtain ⟨h1,_,h3⟩:=h.dir k hk
  omega
 ·obtain ⟨k,hk,rfl⟩:=mem_getD (d:=n0) hm
  exact (hx _ (mem_take_rev (h.fst k hk).1)).1
 ·obtain ⟨k,hk,rfl⟩:=mem_getD (d:=0) hm
  have h1:=h.cnt k (by rw [← h.clen];exact hk)
  have h2:countC (l.take q).reverse (k+1)≤((l.take q).reverse).length:=List.countP_le_length
  rw [List.length_reverse,List.length_take] at h2
  omega
theorem check_c (l:List Nd) (hl:l.length≤1000000) (hx:∀ x∈l,okN x):Con Tryz.prog 57 [.o (.ro 8 l.length (ndC l).cell)] [] 0 0 U (fun _=>.t [.inl (.c (.int .i64 (checkT l).1)),.inl (.c (.int .i64 (checkT l).2))]) G0:=by
 refine con_of Tryz.func57 rfl (by kernel_rfl) Tryz.ntmps57 rfl (by first | exact Nat.zero_le _ | decide) (fun _=>⟨rfl,rfl⟩) fun w S ν=>?_
 by_cases h1:l=[]
 ·have hC:checkT l=(-1,6):=if_pos h1
  have hl0:l.length=0:=by rw [h1];rfl
  rw [hC]
  refine wa ?_
  exact po
 have hpos:0<l.length:=List.length_pos_iff.2 h1
 by_cases h2:120<l.length
 ·have hC:checkT l=(-1,3):=by unfold checkT;rw [if_neg h1,if_pos h2]
  rw [hC]
  refine wa ?_
  exact po
 refine wa ?_
 (refine TE.step rfl rfl rfl (fun _ h=>nomatch h) (m_mkMp (.mp true []) (by first | exact .inl ⟨_,rfl⟩ | exact .inr ⟨_,rfl⟩) rfl) ?_;rintro _ rfl)
 refine wb ?_
 (refine TE.step rfl rfl rfl (fun _ h=>nomatch h) (m_mkMp (.mp false []) (by first | exact .inl ⟨_,rfl⟩ | exact .inr ⟨_,rfl⟩) rfl) ?_;rintro _ rfl)
 refine wb ?_
 refine TE.nilBox 2 0 181 2 (by rfl) (by rfl) ?_
 (refine TE.only [23,22,21,20,4,0] (by rfl) ?_)
 refine TE.loopG (fun x:Nat×Ck=>ChI l x.1 x.2) (fun x=>[(23,.o (.c (.int .i64 x.1)))]) [2,0,1,4] (fun x=>ckV 2 0 1 4 x.2) (fun x=>l.length - x.1) (0,ck0) (by rfl) (chI_start l) ?_ ?_
 ·(refine Ent.of rfl rfl (by rfl) ?_;(try (first|exact trivial|((with_reducible refine AllP.go ?_);dsimp only [AllP,appP];repeat' (first|refine And.intro ?_ ?_|exact zz)))))
  exact LeDC.nil rfl rfl
 rintro ⟨q,c⟩ g
 dsimp only at g
 have hq:=g.at'.le
 obtain ⟨f1,f2,f3,f4⟩:=chI_facts g (by omega) hx
 by_cases hlt:q<l.length
 ·have hn:=okn_mem hx hlt
  refine wa ?_
  refine cw (cknode_c c (l.getD q n0) hn (by have:=g.dirs;omega) f1 f2 f3 f4 (by have:=g.first;omega)) ?_
  intro c' hc'
  by_cases he:nodeF c (l.getD q n0)≠0
  ·have hC:=checkT_bad h1 (by omega) (chk_bad g.at' hlt he)
   rw [hC]
   refine wb ?_
   exact po
  have he:=Decidable.not_not.1 he
  rw [hc' he]
  refine wb ?_
  refine TE.again' (q+1,nodeD c (l.getD q n0)) (chI_next g hlt he) (by dsimp only;omega) ?_
  exact ee
 ·obtain rfl:q=l.length:=by omega
  obtain ⟨e1,e2⟩:=chk_end g.at'
  have hC:=checkT_good h1 (by omega) e1
  rw [hC]
  have hcnt:∀ x∈l,CntOk l c x:=fun x hx=>e2 x hx
  refine wa ?_
  refine cw (loneIdx_c l c hl hcnt) ?_
  intro _ _
  by_cases hi:0≤loneI l
  ·rw [if_pos hi]
   refine wb ?_
   exact po
  ·rw [if_neg hi]
   refine wb ?_
   exact po
def natR (n:Nat) (_:Nat):DC:=.c (.int .i64 n)
abbrev skC (s:List Nat):Ct:=listC natR 0 s
theorem head_take {α:Type} {f:α→Nat→DC} {d:α} {sz k m:Nat} {l:List α} (h:k=m) (hm:m≤l.length):LeDC sz (headC (listC f d l) k) (listC f d (l.take m)):=by
 subst h
 refine ⟨by show k=(l.take k).length;rw [List.length_take];omega,fun i j hi _=>LeX.of_eq ?_⟩
 show f (l.getD i d) j=f ((l.take k).getD i d) j
 have hi:i<k:=hi
 rw [getD_take hi]
theorem walk_c (l:List Bn):Con Tryz.prog 23 [.o (.ro 10 l.length (bnC l).cell)] [] 0 1 U (fun _=>.o (.clo 64 [(0,0)])) (fun _=>[.box 0 22 [.ro 10 l.length (bnC l).cell]]):=by
 refine con_of Tryz.func23 rfl (by kernel_rfl) Tryz.ntmps23 rfl (by first | exact Nat.zero_le _ | decide) (fun _=>⟨rfl,rfl⟩) fun w S ν=>?_
 refine wc ?_
 exact po
abbrev metE (l:List Bn) (q:Nat):List (ByteArray×List DC):=(metL l q).map fun t=>(t,[.c (.bool true)])
theorem metE_none {l:List Bn} {q:Nat} (h:q<l.length) (hr:(l.getD q b0).red=[]):metE l (q+1)=metE l q:=by
 unfold metE
 rw [metL_none h hr]
theorem get_in {v:List DC} {k:ByteArray}:∀ {L:List ByteArray},k∈L→getM (L.map fun t=>(t,v)) k=some v
 | x :: r,h=>by
  rw [List.map_cons,getM]
  by_cases e:x=k
  ·rw [if_pos e]
  ·rw [if_neg e]
   exact get_in ((List.mem_cons.1 h).elim (fun h=>absurd h.symm e) id)
theorem get_out {v:List DC} {k:ByteArray}:∀ {L:List ByteArray},k ∉ L→getM (L.map fun t=>(t,v)) k=none
 | [],_=>rfl
 | x :: r,h=>by
  rw [List.map_cons,getM,if_neg ?_,get_out fun h2=>h (List.mem_cons_of_mem _ h2)]
  intro e
  have e:x=k:=e
  exact h (by rw [e];exact List.mem_cons_self ..)
theorem put_set {v:List DC} {k:ByteArray}:∀ (L:List ByteArray),k ∉ L→putM (L.map fun t=>(t,v)) k v=(L++[k]).map fun t=>(t,v)
 | [],_=>rfl
 | x :: r,h=>by
  rw [List.map_cons,putM,if_neg ?_,put_set r fun h2=>h (List.mem_cons_of_mem _ h2)]
  ·rfl
  ·intro e
   have e:x=k:=e
   exact h (by rw [e];exact List.mem_cons_self ..)
theorem checkB_c (l:List Bn) (hl:l.length≤1000000) (hx:∀ x∈l,okB x):Con Tryz.prog 20 [.o (.ro 10 l.length (bnC l).cell)] [] 0 0 U (fun _=>.t [.inl (.c (.int .i64 (checkB l).1)),.inl (.c (.int .i64 (checkB l).2))]) G0:=by
 refine con_of Tryz.func20 rfl (by kernel_rfl) Tryz.ntmps20 rfl (by first | exact Nat.zero_le _ | decide) (fun _=>⟨rfl,rfl⟩) fun w S ν=>?_
 have hti:(nds l).length=l.length:=List.length_map ..
 have hxn:∀ x∈l,lenN x.nd:=fun x h=>(hx x h).1.1
 have hxr:∀ x∈nds l,okN x:=fun x h=>by
  obtain ⟨y,hy,rfl⟩:=List.mem_map.1 h
  exact (hx y hy).1
 have hrt:=tree_c l hl hxn
 have hrc:=check_c (nds l) (by omega) hxr
 refine wa ?_
 refine cw (hrt) ?_
 intro _ _
 refine wb ?_
 refine cw (hrc) ?_
 intro _ _
 by_cases hT:(checkT (nds l)).2≠0
 ·have hB:checkB l=checkT (nds l):=if_pos hT
  rw [hB]
  refine wb ?_
  exact po
 have hT:=Decidable.not_not.1 hT
 have hT:Tok (nds l):=hT
 refine wb ?_
 (refine TE.step rfl rfl rfl (fun _ h=>nomatch h) (m_mkMp (.ms false []) (by first | exact .inl ⟨_,rfl⟩ | exact .inr ⟨_,rfl⟩) rfl) ?_;rintro _ rfl)
 refine wb ?_
 refine cw (walk_c l) ?_
 intro _ _
 refine wb ?_
 (refine TE.only [25,6,3,2,1] (by rfl) ?_)
 (refine TE.range rfl (by rfl) (by rfl) (by kernel_rfl) (by rfl) (by rfl) rfl ?_)
 intro l' a1 w0 B0 S0 ν0 L
 (repeat (first|(with_reducible refine AllP.go ?_;first|exact og|((try simp only [OS]);repeat' (first|exact oj|refine And.intro ?_ ?_)))|(refine rg ?_ ?_)|(with_reducible first|refine stp ?_|refine tD rfl ?_)|(with_reducible first|exact PanicOk.body|exact rd.panic|refine PanicOk.then' ?_|refine PanicOk.block ?_|refine PanicOk.jump ?_)|(refine dc ?_)|(refine dn ?_)|(refine TL.done (by rfl) ?_)|(refine TL.auto tysOk rfl ?_ (by rfl) ?_ ?_)|((refine TL.one (by rfl) ?_);first|(refine sm ?_ ?_)|(refine sp ?_ ?_))|(refine sm ?_ ?_)|refine ct ?_|refine cf ?_))
 refine TE.nilOwn 3 3 1 (by rfl) ?_
 refine TE.nilOwn 4 9 1 (by rfl) ?_
 refine TE.loopG (fun q:Nat=>q≤l.length∧∀ j,j<q→marksE l j=0) (fun q=>[(10,.o (.c (.int .i64 q))),(3,.o (.own 6)),(4,.o (.own 7))]) [6,7,3] (fun q=>[.own 6 3 1 (skC (stkI (nds l) q)),.own 7 9 1 (paC (pstI (nds l) q)),.obj 3 (.ms false (metE l q))]) (fun q=>l.length - q) 0 (by rfl) ⟨Nat.zero_le _,fun j hj=>absurd hj (Nat.not_lt_zero _)⟩ ?_ ?_
 ·(refine Ent.of rfl rfl (by rfl) ?_;(try (first|exact trivial|((with_reducible refine AllP.go ?_);dsimp only [AllP,appP];repeat' (first|refine And.intro ?_ ?_|exact zz)))))
  ·exact LeDC.nil rfl rfl
  ·exact LeDC.nil rfl rfl
 rintro q ⟨hq,hg⟩
 by_cases hlt:q<l.length
 ·have hxd:((nds l).getD q n0).depth=(l.getD q b0).nd.depth:=by rw [nds_getD]
  have hxnm:((nds l).getD q n0).name=(l.getD q b0).nd.name:=by rw [nds_getD]
  have hks:(skC (stkI (nds l) q)).n=(stkI (nds l) q).length:=rfl
  have hkp:(paC (pstI (nds l) q)).n=(pstI (nds l) q).length:=rfl
  obtain ⟨f1,f2,f3,f4,f5⟩:=walk_facts hT (q:=q) (by omega)
  rw [hxd] at f1 f2 f3
  obtain ⟨d,hd⟩:∃ d,d=(l.getD q b0).nd.depth:=⟨_,rfl⟩
  have ht1:((stkI (nds l) q).take (l.getD q b0).nd.depth.toNat).length=(l.getD q b0).nd.depth.toNat:=by rw [List.length_take];omega
  have ht2:((pstI (nds l) q).take ((l.getD q b0).nd.depth - 1).toNat).length=((l.getD q b0).nd.depth - 1).toNat:=by rw [List.length_take];omega
  refine wa ?_
  refine TE.midG (ι:=Unit) (fun _=>True) (fun _=>[(3,.o (.own 6)),(4,.o (.own 7))]) [6,7] (fun _=>[.own 6 3 1 (skC ((stkI (nds l) q).take (l.getD q b0).nd.depth.toNat)),.own 7 9 1 (paC ((pstI (nds l) q).take ((l.getD q b0).nd.depth - 1).toNat))]) (by rfl) ?_ fun _ _=>?_
  ·(refine TE.drawK (fun i=>!(Nat.beq i 6 || Nat.beq i 7)) (by rfl) (by rfl) (by rfl) ?_)
   (repeat' (first|(with_reducible refine AllP.go ?_;first|exact og|((try simp only [OS]);repeat' (first|exact oj|refine And.intro ?_ ?_)))|(with_reducible first|exact PanicOk.body|exact rd.panic|refine PanicOk.then' ?_|refine PanicOk.block ?_|refine PanicOk.jump ?_)|(refine TL.done (by rfl) ?_)|(refine TL.auto tysOk rfl ?_ (by rfl) ?_ ?_)|((refine TL.one (by rfl) ?_);first|(refine sm ?_ ?_)|(refine sp ?_ ?_)|(refine StepL.law rfl rfl rfl (fun _ h=>nomatch h) rfl (m_nilO rfl rfl) (by rfl) ?_;rintro _ rfl)|(refine StepL.law rfl rfl rfl (fun _ h=>nomatch h) rfl (m_cutOwn tysOk rfl (und_slice tysOk rfl) rfl rfl rfl rfl rfl ?_) (by rfl) ?_;rotate_left;rintro _ rfl;rotate_right;first|omega|skip))|(refine sm ?_ ?_)|(refine sp ?_ ?_)|(refine StepL.law rfl rfl rfl (fun _ h=>nomatch h) rfl (m_nilO rfl rfl) (by rfl) ?_;rintro _ rfl)|(refine StepL.law rfl rfl rfl (fun _ h=>nomatch h) rfl (m_cutOwn tysOk rfl (und_slice tysOk rfl) rfl rfl rfl rfl rfl ?_) (by rfl) ?_;rotate_left;rintro _ rfl;rotate_right;first|omega|skip)|((first|refine gl ?_ ?_|refine gc ?_ ?_)<;>intro h<;>(try simp only [NS] at h)<;>(try exact xf))|(refine TL.two (by rfl) ?_ ?_)|(refine TL.three (by rfl) ?_ ?_ ?_)|(refine TL.four (by rfl) ?_ ?_ ?_ ?_)))
   all_goals first | (simp only [Int.toNat_natCast];rw [hks];omega) | skip
   all_goals (repeat (with_reducible first|refine stp ?_|refine tD rfl ?_))
   all_goals (refine TE.at () trivial ?_;(refine Ent.of rfl rfl (by rfl) ?_;(try (first|exact trivial|((with_reducible refine AllP.go ?_);dsimp only [AllP,appP];repeat' (first|refine And.intro ?_ ?_|exact zz))))))
   all_goals first
    | exact head_take (by simp only [Int.toNat_natCast];rw [hks];omega) (by omega)
    | exact head_take (by simp only [Int.toNat_natCast];rw [hkp];omega) (by omega)
  (repeat (with_reducible first|refine stp ?_|refine tD rfl ?_))
  ((refine rg ?_ ?_);try (with_reducible refine AllP.go ?_;first|exact og|((try simp only [OS]);repeat' (first|exact oj|refine And.intro ?_ ?_))))
  refine TE.done (TE.thenN ?_)
  refine TE.seq ?_
  refine TE.midG (ι:=Unit) (fun _=>True) (fun _=>[(4,.o (.own 7)),(7,.o (.c (.int .i64 (aboveI (nds l) q))))]) [7] (fun _=>[.own 7 9 1 (paC (pstI (nds l) (q+1)))]) (by rfl) ?_ fun _ _=>?_
  ·rcases Nat.eq_zero_or_pos q with h0 | h0
   ·subst h0
    obtain ⟨r1,r2,r3⟩:=walk_root hT
    rw [hxd] at r1
    have ht3:((stkI (nds l) 0).take (l.getD 0 b0).nd.depth.toNat).length=0:=by rw [ht1,r1];rfl
    refine wa ?_
    (refine TE.at () trivial ?_;(refine Ent.of rfl rfl (by rfl) ?_;(try (first|exact trivial|((with_reducible refine AllP.go ?_);dsimp only [AllP,appP];repeat' (first|refine And.intro ?_ ?_|exact zz))))))
    rw [r3,List.take_nil,pstI_zero (by omega)]
    exact LeD.refl
   ·obtain ⟨k1,_,_,_,_,k6⟩:=walk_at hT (q:=q) (by omega) h0
    rw [hxd] at k1 k6
    have hix:(((skC ((stkI (nds l) q).take (l.getD q b0).nd.depth.toNat)).n:Int) - 1).toNat=((l.getD q b0).nd.depth - 1).toNat:=by
     show ((((stkI (nds l) q).take (l.getD q b0).nd.depth.toNat).length:Int) - 1).toNat=_
     rw [ht1]
     omega
    have hps:=pstI_succ (l:=nds l) (q:=q) (by omega) h0
    rw [hxd,hxnm] at hps
    refine wa ?_
    (refine TE.at () trivial ?_;(refine Ent.of rfl rfl (by rfl) ?_;(try (first|exact trivial|((with_reducible refine AllP.go ?_);dsimp only [AllP,appP];repeat' (first|refine And.intro ?_ ?_|exact zz))))))
    ·refine congrArg (Value.int _) ?_
     rw [hix,k6,getD_take (by omega)]
    ·exact listC_snoc _ hps (nth1 rfl)
  (refine TE.only [10,9,8,7,6,5,4,3,1,0] (by rfl) ?_)
  have hpl:(pstI (nds l) (q+1)).length≤1000000:=by rw [pstI_path hT (by omega)];have:=(pcheck_iff.1 (path_ok hT q (by omega))).1;omega
  refine wa ?_
  refine cw (cloneO_c (pstI (nds l) (q+1)) hpl) ?_
  intro _ _
  ((refine rn ?_ ?_);try (with_reducible refine AllP.go ?_;first|exact og|((try simp only [OS]);repeat' (first|exact oj|refine And.intro ?_ ?_))))
  (refine TE.freezeN 11 (by rfl) (by rfl) ?_)
  (refine TE.only [54,50,49,10,9,8,4,3,1,0] (by rfl) ?_)
  (refine TE.yield L rfl (by rfl) (by rfl) rfl rfl (by rfl) (by rfl) (by rfl) rfl (by rfl) ?_)
  intro Qr w1 B1 S1 ν1 rd
  (repeat (first|(with_reducible refine AllP.go ?_;first|exact og|((try simp only [OS]);repeat' (first|exact oj|refine And.intro ?_ ?_)))|(refine rg ?_ ?_)|(with_reducible first|refine stp ?_|refine tD rfl ?_)|(with_reducible first|exact PanicOk.body|exact rd.panic|refine PanicOk.then' ?_|refine PanicOk.block ?_|refine PanicOk.jump ?_)|(refine dc ?_)|(refine dn ?_)|(refine TL.done (by rfl) ?_)|(refine TL.auto tysOk rfl ?_ (by rfl) ?_ ?_)|((refine TL.one (by rfl) ?_);first|(refine sm ?_ ?_)|(refine sp ?_ ?_))|(refine sm ?_ ?_)|refine ct ?_|refine cf ?_))
  refine rd.begin ?_
  clear rd
  intro w1 B1 S1 ν1 rd
  have hmE:=marksE_X l q
  have hst:=stkI_succ (l:=nds l) (q:=q) (by omega)
  rw [hxd] at hst
  have hpp:pstI (nds l) (q+1)=pathI (nds l) q:=pstI_path hT (by omega)
  have hrl:(l.getD q b0).red=[]↔(l.getD q b0).red.length=0:=List.length_eq_zero_iff.symm
  obtain ⟨x1,x2,x3⟩:=hx _ (getD_mem (d:=b0) hlt)
  have hnext:marksE l q=0→∀ j,j<q+1→marksE l j=0:=fun he j hj=>by
   rcases Nat.lt_or_ge j q with h5 | h5
   ·exact hg j h5
   ·obtain rfl:j=q:=by omega
    exact he
  (repeat (with_reducible first|refine stp ?_|refine tD rfl ?_))
  ((refine rg ?_ ?_);try (with_reducible refine AllP.go ?_;first|exact og|((try simp only [OS]);repeat' (first|exact oj|refine And.intro ?_ ?_))))
  refine TE.done (TE.thenN ?_)
  (refine TE.only [9,8,7,6,3,2,1] (by rfl) ?_)
  cases ho:(l.getD q b0).opq
  ·rw [show (l.getD ((q:Nat):Int).toNat b0).opq=false from ho]
   by_cases hr:(l.getD q b0).red=[]
   ·have hr0:=hrl.1 hr
    rw [marksX_none hr ho] at hmE
    by_cases h5:(l.getD q b0).nd.kind=5
    ·have hi0:0<q:=by
      rcases Nat.eq_zero_or_pos q with e | e
      ·subst e
       have:=(node_zero ((tok_node hT).2.2 0 (by omega))).1
       rw [nds_getD] at this
       unfold placeE at this
       simp only [List.take_zero,List.reverse_nil] at this
       split at this
       ·exact absurd this (by decide)
       ·omega
      ·exact e
     obtain ⟨a1,a2⟩:=above_pos hT hi0 (by omega)
     obtain ⟨k,hk⟩:∃ k:Nat,aboveI (nds l) q=k:=⟨(aboveI (nds l) q).toNat,by omega⟩
     have hu:opqAt l (aboveI (nds l) q)=(l.getD k b0).opq:=by rw [hk];unfold opqAt;simp
     rw [hu] at hmE
     rw [hk] at a1 a2⊢
     refine wa ?_
     rw [show (l.getD ((k:Nat):Int).toNat b0).opq=(l.getD k b0).opq from rfl]
     cases hok:(l.getD k b0).opq
     ·rw [hok,if_neg (by simp)] at hmE
      refine wa ?_
      refine rd.normal ?_
      refine wb ?_
      refine TE.again' (q+1) ⟨by omega,hnext hmE⟩ (by omega) ?_
      (refine Ent.of rfl rfl (by rfl) ?_;(try (first|exact trivial|((with_reducible refine AllP.go ?_);dsimp only [AllP,appP];repeat' (first|refine And.intro ?_ ?_|exact zz)))))
      all_goals first | exact listC_snoc _ hst (nth1 rfl) | exact congrArg (AO.ms false) (metE_none hlt hr).symm
     ·rw [hok,if_pos ⟨h5,rfl⟩] at hmE
      refine wa ?_
      (refine rd.ret ?_;intro w2 B2 S2 ν2 L2;((refine rn ?_ ?_);(repeat' (first|(with_reducible refine AllP.go ?_;first|exact og|((try simp only [OS]);repeat' (first|exact oj|refine And.intro ?_ ?_)))|(refine rg ?_ ?_)|(with_reducible first|refine stp ?_|refine tD rfl ?_)|refine ct ?_|refine cf ?_|((first|refine gs ?_ ?_|refine gl ?_ ?_|refine gc ?_ ?_)<;>intro h<;>(try simp only [NS] at h)<;>(try exact xf)<;>(try refine rn ?_ ?_)))));refine TE.iterStop L2 io (by rfl) ?_;(repeat' (first|(with_reducible refine AllP.go ?_;first|exact og|((try simp only [OS]);repeat' (first|exact oj|refine And.intro ?_ ?_)))|(refine rg ?_ ?_)|(with_reducible first|refine stp ?_|refine tD rfl ?_)|refine ct ?_|refine cf ?_|((first|refine gs ?_ ?_|refine gl ?_ ?_|refine gc ?_ ?_)<;>intro h<;>(try simp only [NS] at h)<;>(try exact xf)<;>(try refine rn ?_ ?_)))))
      rw [checkB_bad hT hlt hg (by rw [hmE];decide),hmE]
      exact po
    ·rw [if_neg (fun k=>h5 k.1)] at hmE
     (repeat' (first|(with_reducible refine AllP.go ?_;first|exact og|((try simp only [OS]);repeat' (first|exact oj|refine And.intro ?_ ?_)))|(refine rg ?_ ?_)|(with_reducible first|refine stp ?_|refine tD rfl ?_)|refine ct ?_|refine cf ?_|((first|refine gs ?_ ?_|refine gl ?_ ?_|refine gc ?_ ?_)<;>intro h<;>(try simp only [NS] at h)<;>(try exact xf)<;>(try refine rn ?_ ?_))))
     all_goals refine rd.normal ?_
     all_goals refine wb ?_
     all_goals refine TE.again' (q+1) ⟨by omega,hnext hmE⟩ (by omega) ?_
     all_goals (refine Ent.of rfl rfl (by rfl) ?_;(try (first|exact trivial|((with_reducible refine AllP.go ?_);dsimp only [AllP,appP];repeat' (first|refine And.intro ?_ ?_|exact zz)))))
     all_goals first | exact listC_snoc _ hst (nth1 rfl) | exact congrArg (AO.ms false) (metE_none hlt hr).symm
   ·have hr0:0<(l.getD q b0).red.length:=List.length_pos_iff.2 hr
    rw [marksX_red hr ho] at hmE
    by_cases hk:(l.getD q b0).nd.kind=1∧q≠0
    ·rw [if_pos hk] at hmE
     have hpc:=print_c (l.getD q b0).red x3 x2
     have hpq:=equalS_c (l.getD q b0).red (pstI (nds l) (q+1)) x2 hpl
     refine wa ?_
     refine cw (hpc) ?_
     intro _ _
     by_cases hp:pcheckE (l.getD q b0).red≠0
     ·rw [if_pos hp] at hmE
      rw [show printE (l.getD q b0).red=(eS,pcheckE (l.getD q b0).red) from if_pos hp]
      refine wb ?_
      (refine rd.ret ?_;intro w2 B2 S2 ν2 L2;((refine rn ?_ ?_);(repeat' (first|(with_reducible refine AllP.go ?_;first|exact og|((try simp only [OS]);repeat' (first|exact oj|refine And.intro ?_ ?_)))|(refine rg ?_ ?_)|(with_reducible first|refine stp ?_|refine tD rfl ?_)|refine ct ?_|refine cf ?_|((first|refine gs ?_ ?_|refine gl ?_ ?_|refine gc ?_ ?_)<;>intro h<;>(try simp only [NS] at h)<;>(try exact xf)<;>(try refine rn ?_ ?_)))));refine TE.iterStop L2 io (by rfl) ?_;(repeat' (first|(with_reducible refine AllP.go ?_;first|exact og|((try simp only [OS]);repeat' (first|exact oj|refine And.intro ?_ ?_)))|(refine rg ?_ ?_)|(with_reducible first|refine stp ?_|refine tD rfl ?_)|refine ct ?_|refine cf ?_|((first|refine gs ?_ ?_|refine gl ?_ ?_|refine gc ?_ ?_)<;>intro h<;>(try simp only [NS] at h)<;>(try exact xf)<;>(try refine rn ?_ ?_)))))
      rw [checkB_bad hT hlt hg (by rw [hmE];exact hp),hmE]
      exact po
     rw [if_neg hp] at hmE
     rw [show printE (l.getD q b0).red=(textS (l.getD q b0).red,0) from if_neg hp]
     refine wb ?_
     refine cw (hpq) ?_
     intro _ _
     rw [hpp]
     by_cases he:(l.getD q b0).red=pathI (nds l) q
     ·rw [if_pos he] at hmE
      refine wb ?_
      (refine rd.ret ?_;intro w2 B2 S2 ν2 L2;((refine rn ?_ ?_);(repeat' (first|(with_reducible refine AllP.go ?_;first|exact og|((try simp only [OS]);repeat' (first|exact oj|refine And.intro ?_ ?_)))|(refine rg ?_ ?_)|(with_reducible first|refine stp ?_|refine tD rfl ?_)|refine ct ?_|refine cf ?_|((first|refine gs ?_ ?_|refine gl ?_ ?_|refine gc ?_ ?_)<;>intro h<;>(try simp only [NS] at h)<;>(try exact xf)<;>(try refine rn ?_ ?_)))));refine TE.iterStop L2 io (by rfl) ?_;(repeat' (first|(with_reducible refine AllP.go ?_;first|exact og|((try simp only [OS]);repeat' (first|exact oj|refine And.intro ?_ ?_)))|(refine rg ?_ ?_)|(with_reducible first|refine stp ?_|refine tD rfl ?_)|refine ct ?_|refine cf ?_|((first|refine gs ?_ ?_|refine gl ?_ ?_|refine gc ?_ ?_)<;>intro h<;>(try simp only [NS] at h)<;>(try exact xf)<;>(try refine rn ?_ ?_)))))
      rw [checkB_bad hT hlt hg (by rw [hmE];decide),hmE]
      exact po
     rw [if_neg he] at hmE
     have hmd:=met_dup hlt hg hr (Decidable.not_not.1 hp)
     refine wb ?_
     by_cases hd:dupB l q=true
     ·rw [if_pos hd] at hmE
      have hgt:getM (metE l q) (textS (l.getD q b0).red)=some [.c (.bool true)]:=get_in (hmd.2 hd)
      (refine TE.step rfl rfl rfl (fun _ h=>nomatch h) (m_mpGet (mpS false) rfl (Tryz.underlying95) (Tryz.underlying9) rfl rfl rfl (hgt) rfl) ?_;rintro _ rfl)
      refine wb ?_
      (refine rd.ret ?_;intro w2 B2 S2 ν2 L2;((refine rn ?_ ?_);(repeat' (first|(with_reducible refine AllP.go ?_;first|exact og|((try simp only [OS]);repeat' (first|exact oj|refine And.intro ?_ ?_)))|(refine rg ?_ ?_)|(with_reducible first|refine stp ?_|refine tD rfl ?_)|refine ct ?_|refine cf ?_|((first|refine gs ?_ ?_|refine gl ?_ ?_|refine gc ?_ ?_)<;>intro h<;>(try simp only [NS] at h)<;>(try exact xf)<;>(try refine rn ?_ ?_)))));refine TE.iterStop L2 io (by rfl) ?_;(repeat' (first|(with_reducible refine AllP.go ?_;first|exact og|((try simp only [OS]);repeat' (first|exact oj|refine And.intro ?_ ?_)))|(refine rg ?_ ?_)|(with_reducible first|refine stp ?_|refine tD rfl ?_)|refine ct ?_|refine cf ?_|((first|refine gs ?_ ?_|refine gl ?_ ?_|refine gc ?_ ?_)<;>intro h<;>(try simp only [NS] at h)<;>(try exact xf)<;>(try refine rn ?_ ?_)))))
      rw [checkB_bad hT hlt hg (by rw [hmE];decide),hmE]
      exact po
     ·rw [if_neg hd] at hmE
      have hgt:getM (metE l q) (textS (l.getD q b0).red)=none:=get_out (fun h=>hd (hmd.1 h))
      have hpt:putM (metE l q) (textS (l.getD q b0).red) [.c (.bool true)]=metE l (q+1):=by
       unfold metE
       rw [metL_some hlt hr]
       exact put_set _ (fun h=>hd (hmd.1 h))
      (refine TE.step rfl rfl rfl (fun _ h=>nomatch h) (m_mpNone tysOk (mpS false) rfl (Tryz.underlying95) (Tryz.underlying9) rfl rfl rfl (hgt) rfl rfl rfl) ?_;rintro _ rfl)
      refine wb ?_
      (refine TE.step rfl rfl rfl (fun _ h=>nomatch h) (m_mpUp (mpS false) rfl rfl (Tryz.underlying95) (Tryz.underlying9) rfl rfl rfl rfl rfl) ?_;rintro _ rfl)
      refine wb ?_
      refine rd.normal ?_
      refine wb ?_
      refine TE.again' (q+1) ⟨by omega,hnext hmE⟩ (by omega) ?_
      (refine Ent.of rfl rfl (by rfl) ?_;(try (first|exact trivial|((with_reducible refine AllP.go ?_);dsimp only [AllP,appP];repeat' (first|refine And.intro ?_ ?_|exact zz)))))
      all_goals first | exact listC_snoc _ hst (nth1 rfl) | exact congrArg (AO.ms false) hpt | (rw [hpp];exact LeD.refl)
    ·rw [if_neg hk] at hmE
     (repeat' (first|(with_reducible refine AllP.go ?_;first|exact og|((try simp only [OS]);repeat' (first|exact oj|refine And.intro ?_ ?_)))|(refine rg ?_ ?_)|(with_reducible first|refine stp ?_|refine tD rfl ?_)|refine ct ?_|refine cf ?_|((first|refine gs ?_ ?_|refine gl ?_ ?_|refine gc ?_ ?_)<;>intro h<;>(try simp only [NS] at h)<;>(try exact xf)<;>(try refine rn ?_ ?_))))
     all_goals (refine rd.ret ?_;intro w2 B2 S2 ν2 L2;((refine rn ?_ ?_);(repeat' (first|(with_reducible refine AllP.go ?_;first|exact og|((try simp only [OS]);repeat' (first|exact oj|refine And.intro ?_ ?_)))|(refine rg ?_ ?_)|(with_reducible first|refine stp ?_|refine tD rfl ?_)|refine ct ?_|refine cf ?_|((first|refine gs ?_ ?_|refine gl ?_ ?_|refine gc ?_ ?_)<;>intro h<;>(try simp only [NS] at h)<;>(try exact xf)<;>(try refine rn ?_ ?_)))));refine TE.iterStop L2 io (by rfl) ?_;(repeat' (first|(with_reducible refine AllP.go ?_;first|exact og|((try simp only [OS]);repeat' (first|exact oj|refine And.intro ?_ ?_)))|(refine rg ?_ ?_)|(with_reducible first|refine stp ?_|refine tD rfl ?_)|refine ct ?_|refine cf ?_|((first|refine gs ?_ ?_|refine gl ?_ ?_|refine gc ?_ ?_)<;>intro h<;>(try simp only [NS] at h)<;>(try exact xf)<;>(try refine rn ?_ ?_)))))
     all_goals rw [checkB_bad hT hlt hg (by rw [hmE];decide),hmE]
     all_goals exact po
  ·rw [show (l.getD ((q:Nat):Int).toNat b0).opq=true from ho]
   by_cases hr:(l.getD q b0).red=[]
   ·have hr0:=hrl.1 hr
    rw [marksX_opq hr ho] at hmE
    by_cases hk:(l.getD q b0).nd.kind=1
    ·rw [if_pos hk] at hmE
     (repeat' (first|(with_reducible refine AllP.go ?_;first|exact og|((try simp only [OS]);repeat' (first|exact oj|refine And.intro ?_ ?_)))|(refine rg ?_ ?_)|(with_reducible first|refine stp ?_|refine tD rfl ?_)|refine ct ?_|refine cf ?_|((first|refine gs ?_ ?_|refine gl ?_ ?_|refine gc ?_ ?_)<;>intro h<;>(try simp only [NS] at h)<;>(try exact xf)<;>(try refine rn ?_ ?_))))
     all_goals refine rd.normal ?_
     all_goals refine wb ?_
     all_goals refine TE.again' (q+1) ⟨by omega,hnext hmE⟩ (by omega) ?_
     all_goals (refine Ent.of rfl rfl (by rfl) ?_;(try (first|exact trivial|((with_reducible refine AllP.go ?_);dsimp only [AllP,appP];repeat' (first|refine And.intro ?_ ?_|exact zz)))))
     all_goals first | exact listC_snoc _ hst (nth1 rfl) | exact congrArg (AO.ms false) (metE_none hlt hr).symm
    ·rw [if_neg hk] at hmE
     refine wa ?_
     (refine rd.ret ?_;intro w2 B2 S2 ν2 L2;((refine rn ?_ ?_);(repeat' (first|(with_reducible refine AllP.go ?_;first|exact og|((try simp only [OS]);repeat' (first|exact oj|refine And.intro ?_ ?_)))|(refine rg ?_ ?_)|(with_reducible first|refine stp ?_|refine tD rfl ?_)|refine ct ?_|refine cf ?_|((first|refine gs ?_ ?_|refine gl ?_ ?_|refine gc ?_ ?_)<;>intro h<;>(try simp only [NS] at h)<;>(try exact xf)<;>(try refine rn ?_ ?_)))));refine TE.iterStop L2 io (by rfl) ?_;(repeat' (first|(with_reducible refine AllP.go ?_;first|exact og|((try simp only [OS]);repeat' (first|exact oj|refine And.intro ?_ ?_)))|(refine rg ?_ ?_)|(with_reducible first|refine stp ?_|refine tD rfl ?_)|refine ct ?_|refine cf ?_|((first|refine gs ?_ ?_|refine gl ?_ ?_|refine gc ?_ ?_)<;>intro h<;>(try simp only [NS] at h)<;>(try exact xf)<;>(try refine rn ?_ ?_)))))
     rw [checkB_bad hT hlt hg (by rw [hmE];decide),hmE]
     exact po
   ·have hr0:0<(l.getD q b0).red.length:=List.length_pos_iff.2 hr
    rw [marksX_both hr ho] at hmE
    by_cases hk:(l.getD q b0).nd.kind=1∧q≠0
    ·rw [if_pos hk] at hmE
     refine wa ?_
     all_goals (refine rd.ret ?_;intro w2 B2 S2 ν2 L2;((refine rn ?_ ?_);(repeat' (first|(with_reducible refine AllP.go ?_;first|exact og|((try simp only [OS]);repeat' (first|exact oj|refine And.intro ?_ ?_)))|(refine rg ?_ ?_)|(with_reducible first|refine stp ?_|refine tD rfl ?_)|refine ct ?_|refine cf ?_|((first|refine gs ?_ ?_|refine gl ?_ ?_|refine gc ?_ ?_)<;>intro h<;>(try simp only [NS] at h)<;>(try exact xf)<;>(try refine rn ?_ ?_)))));refine TE.iterStop L2 io (by rfl) ?_;(repeat' (first|(with_reducible refine AllP.go ?_;first|exact og|((try simp only [OS]);repeat' (first|exact oj|refine And.intro ?_ ?_)))|(refine rg ?_ ?_)|(with_reducible first|refine stp ?_|refine tD rfl ?_)|refine ct ?_|refine cf ?_|((first|refine gs ?_ ?_|refine gl ?_ ?_|refine gc ?_ ?_)<;>intro h<;>(try simp only [NS] at h)<;>(try exact xf)<;>(try refine rn ?_ ?_)))))
     all_goals rw [checkB_bad hT hlt hg (by rw [hmE];decide),hmE]
     all_goals exact po
    ·rw [if_neg hk] at hmE
     (repeat' (first|(with_reducible refine AllP.go ?_;first|exact og|((try simp only [OS]);repeat' (first|exact oj|refine And.intro ?_ ?_)))|(refine rg ?_ ?_)|(with_reducible first|refine stp ?_|refine tD rfl ?_)|refine ct ?_|refine cf ?_|((first|refine gs ?_ ?_|refine gl ?_ ?_|refine gc ?_ ?_)<;>intro h<;>(try simp only [NS] at h)<;>(try exact xf)<;>(try refine rn ?_ ?_))))
     all_goals (refine rd.ret ?_;intro w2 B2 S2 ν2 L2;((refine rn ?_ ?_);(repeat' (first|(with_reducible refine AllP.go ?_;first|exact og|((try simp only [OS]);repeat' (first|exact oj|refine And.intro ?_ ?_)))|(refine rg ?_ ?_)|(with_reducible first|refine stp ?_|refine tD rfl ?_)|refine ct ?_|refine cf ?_|((first|refine gs ?_ ?_|refine gl ?_ ?_|refine gc ?_ ?_)<;>intro h<;>(try simp only [NS] at h)<;>(try exact xf)<;>(try refine rn ?_ ?_)))));refine TE.iterStop L2 io (by rfl) ?_;(repeat' (first|(with_reducible refine AllP.go ?_;first|exact og|((try simp only [OS]);repeat' (first|exact oj|refine And.intro ?_ ?_)))|(refine rg ?_ ?_)|(with_reducible first|refine stp ?_|refine tD rfl ?_)|refine ct ?_|refine cf ?_|((first|refine gs ?_ ?_|refine gl ?_ ?_|refine gc ?_ ?_)<;>intro h<;>(try simp only [NS] at h)<;>(try exact xf)<;>(try refine rn ?_ ?_)))))
     all_goals rw [checkB_bad hT hlt hg (by rw [hmE];decide),hmE]
     all_goals exact po
 ·obtain rfl:q=l.length:=by omega
  refine wa ?_
  refine TE.iterEnd L (by first | exact .inl rfl | exact .inr rfl) (by rfl) ?_
  refine wa ?_
  rw [checkB_good hT hg]
  exact po
theorem known_c (l:List Bn) (n:Int) (hl:l.length≤1000000) (hx:∀ x∈l,okB x):Con Tryz.prog 48 [.o (.ro 10 l.length (bnC l).cell),.o (.c (.int .i64 n))] [] 0 0 U (fun _=>.o (.c (.int .i64 (knownE l n)))) G0:=by
 refine con_of Tryz.func48 rfl (by kernel_rfl) Tryz.ntmps48 rfl (by first | exact Nat.zero_le _ | decide) (fun _=>⟨rfl,rfl⟩) fun w S ν=>?_
 have hrc:=checkB_c l hl hx
 refine wa ?_
 refine cw (hrc) ?_
 intro _ _
 by_cases h1:(checkB l).2≠0
 ·have hK:knownE l n=(checkB l).2:=if_pos h1
  rw [hK]
  refine wb ?_
  all_goals exact po
 have hK:knownE l n=if n<0∨(l.length:Int)≤n then 4 else 0:=if_neg h1
 by_cases h2:n<0∨(l.length:Int)≤n
 ·rw [if_pos h2] at hK
  rw [hK]
  ((refine rn ?_ ?_);(repeat' (first|(with_reducible refine AllP.go ?_;first|exact og|((try simp only [OS]);repeat' (first|exact oj|refine And.intro ?_ ?_)))|(refine rg ?_ ?_)|(with_reducible first|refine stp ?_|refine tD rfl ?_)|refine ct ?_|refine cf ?_|((first|refine gs ?_ ?_|refine gl ?_ ?_|refine gc ?_ ?_)<;>intro h<;>(try simp only [NS] at h)<;>(try exact xf)<;>(try refine rn ?_ ?_)))))
  all_goals exact po
 ·rw [if_neg h2] at hK
  rw [hK]
  refine wb ?_
  all_goals exact po
theorem dirs_c (l:List Bn) (hl:l.length≤1000000) (hx:∀ x∈l,okB x):Con Tryz.prog 14 [.o (.ro 10 l.length (bnC l).cell)] [] 0 0 U (fun _=>.t [.inl (.ro 1 (dirsE l).1.length (skC (dirsE l).1).cell),.inl (.c (.int .i64 (dirsE l).2))]) G0:=by
 refine con_of Tryz.func14 rfl (by kernel_rfl) Tryz.ntmps14 rfl (by first | exact Nat.zero_le _ | decide) (fun _=>⟨rfl,rfl⟩) fun w S ν=>?_
 have hrc:=checkB_c l hl hx
 refine wa ?_
 refine cw (hrc) ?_
 intro _ _
 by_cases h1:(checkB l).2≠0
 ·have hK:dirsE l=([],(checkB l).2):=if_pos h1
  rw [hK]
  refine wb ?_
  exact po
 have hK:dirsE l=(dirsL l,0):=if_neg h1
 rw [hK]
 refine wb ?_
 refine TE.nilOwn 6 3 1 (by rfl) ?_
 (refine TE.only [19,18,17,6,0] (by rfl) ?_)
 refine TE.loopG (fun q:Nat=>q≤l.length) (fun q=>[(19,.o (.c (.int .i64 q))),(6,.o (.own 0))]) [0] (fun q=>[.own 0 3 1 (skC (idxs (fun i=>decide ((l.getD i b0).nd.kind=1)) q))]) (fun q=>l.length - q) 0 (by rfl) (Nat.zero_le _) ?_ ?_
 ·(refine Ent.of rfl rfl (by rfl) ?_;(try (first|exact trivial|((with_reducible refine AllP.go ?_);dsimp only [AllP,appP];repeat' (first|refine And.intro ?_ ?_|exact zz)))))
  exact LeDC.nil rfl rfl
 intro q hq
 by_cases hlt:q<l.length
 ·have hs:=idxs_succ (fun i=>decide ((l.getD i b0).nd.kind=1)) q
  have hn:=idxs_len (fun i=>decide ((l.getD i b0).nd.kind=1)) q
  have hcn:(skC (idxs (fun i=>decide ((l.getD i b0).nd.kind=1)) q)).n≤q:=hn
  by_cases hk:(l.getD q b0).nd.kind=1
  ·rw [if_pos (decide_eq_true hk)] at hs
   refine wa ?_
   refine TE.again' (q+1) (by omega) (by omega) ?_
   (refine Ent.of rfl rfl (by rfl) ?_;(try (first|exact trivial|((with_reducible refine AllP.go ?_);dsimp only [AllP,appP];repeat' (first|refine And.intro ?_ ?_|exact zz)))))
   exact listC_snoc _ hs (nth1 rfl)
  ·rw [if_neg (by simpa using hk)] at hs
   refine wa ?_
   refine TE.again' (q+1) (by omega) (by omega) ?_
   rw [hs]
   exact ee
 ·obtain rfl:q=l.length:=by omega
  refine wa ?_
  (refine TE.freezeN 0 (by rfl) (by rfl) ?_)
  exact po
theorem known_at {l:List Bn} {n:Int} (h:knownE l n=0):∃ k:Nat,n=k∧k<l.length:=by
 unfold knownE at h
 split at h
 ·rename_i k;exact absurd h k
 split at h
 ·exact absurd h (by decide)
 exact ⟨n.toNat,by omega,by omega⟩
theorem names_c (l:List Bn) (i:Nat) (hi:i<l.length) (hl:l.length≤1000000):Con Tryz.prog 49 [.o (.ro 10 l.length (bnC l).cell),.o (.c (.int .i64 i))] [] 0 0 U (fun _=>.o (.ro 1 (namesL l i).length (skC (namesL l i)).cell)) G0:=by
 refine con_of Tryz.func49 rfl (by kernel_rfl) Tryz.ntmps49 rfl (by first | exact Nat.zero_le _ | decide) (fun _=>⟨rfl,rfl⟩) fun w S ν=>?_
 by_cases h0:(l.getD i b0).nd.cls=0
 ·rw [names_zero hi h0]
  refine wa ?_
  (refine TE.freezeN 0 (by rfl) (by rfl) ?_)
  (refine TE.ret' io rfl tysOk (()) ?_ rfl (by rfl) ?_;all_goals (try (first|exact trivial|((with_reducible refine AllP.go ?_);dsimp only [AllP,appP];repeat' (first|refine And.intro ?_ ?_|exact zz)))))
  exact listC_one _ (nth1 rfl)
 refine wa ?_
 refine TE.nilOwn 5 3 1 (by rfl) ?_
 (refine TE.only [18,17,16,5,1,0] (by rfl) ?_)
 refine TE.loopG (fun q:Nat=>q≤l.length) (fun q=>[(18,.o (.c (.int .i64 q))),(5,.o (.own 0))]) [0] (fun q=>[.own 0 3 1 (skC (idxs (namesP l i) q))]) (fun q=>l.length - q) 0 (by rfl) (Nat.zero_le _) ?_ ?_
 ·(refine Ent.of rfl rfl (by rfl) ?_;(try (first|exact trivial|((with_reducible refine AllP.go ?_);dsimp only [AllP,appP];repeat' (first|refine And.intro ?_ ?_|exact zz)))))
  exact LeDC.nil rfl rfl
 intro q hq
 by_cases hlt:q<l.length
 ·have hs:=idxs_succ (namesP l i) q
  have hn:=idxs_len (namesP l i) q
  have hcn:(skC (idxs (namesP l i) q)).n≤q:=hn
  rw [namesP_cls h0] at hs
  by_cases hk:(l.getD q b0).nd.cls=(l.getD i b0).nd.cls
  ·rw [if_pos (decide_eq_true hk)] at hs
   refine wa ?_
   refine we ?_
   refine wa ?_
   refine TE.again' (q+1) (by omega) (by omega) ?_
   (refine Ent.of rfl rfl (by rfl) ?_;(try (first|exact trivial|((with_reducible refine AllP.go ?_);dsimp only [AllP,appP];repeat' (first|refine And.intro ?_ ?_|exact zz)))))
   exact listC_snoc _ hs (nth1 rfl)
  ·rw [if_neg (by simpa using hk)] at hs
   refine wa ?_
   refine we ?_
   refine wa ?_
   refine TE.again' (q+1) (by omega) (by omega) ?_
   rw [hs]
   exact ee
 ·obtain rfl:q=l.length:=by omega
  refine wa ?_
  (refine TE.freezeN 0 (by rfl) (by rfl) ?_)
  exact po
theorem Names_c (l:List Bn) (n:Int) (hl:l.length≤1000000) (hx:∀ x∈l,okB x):Con Tryz.prog 16 [.o (.ro 10 l.length (bnC l).cell),.o (.c (.int .i64 n))] [] 0 0 U (fun _=>.t [.inl (.ro 1 (namesE l n).1.length (skC (namesE l n).1).cell),.inl (.c (.int .i64 (namesE l n).2))]) G0:=by
 refine con_of Tryz.func16 rfl (by kernel_rfl) Tryz.ntmps16 rfl (by first | exact Nat.zero_le _ | decide) (fun _=>⟨rfl,rfl⟩) fun w S ν=>?_
 have hkn:=known_c l n hl hx
 refine wa ?_
 refine cw (hkn) ?_
 intro _ _
 by_cases h1:knownE l n≠0
 ·have hK:namesE l n=([],knownE l n):=if_pos h1
  rw [hK]
  refine wb ?_
  exact po
 have hK:namesE l n=(namesL l n.toNat,0):=if_neg h1
 obtain ⟨k,rfl,hk⟩:=known_at (Decidable.not_not.1 h1)
 rw [Int.toNat_natCast] at hK
 rw [hK]
 have hnc:=names_c l k hk hl
 refine wb ?_
 refine cw (hnc) ?_
 intro _ _
 refine wb ?_
 exact po
theorem equalO_c (l m:List ByteArray) (hl:l.length≤1000000) (hm:m.length≤1000000):Con Tryz.prog 58 [.o (.own 0),.o (.ro 1 m.length (paC m).cell)] [.own 0 9 1 (paC l)] 1 1 U (fun _=>.o (.sb (decide (l=m)))) (fun _=>[.own 0 9 1 (paC l)]):=by
 refine con_of Tryz.func58 rfl (by kernel_rfl) Tryz.ntmps58 rfl (by first | exact Nat.zero_le _ | decide) (fun _=>⟨rfl,rfl⟩) fun w S ν=>?_
 have hln:(paC l).n=l.length:=rfl
 by_cases hlm:l.length=m.length
 ·refine wc ?_
  refine TE.loopG (fun q:Nat=>q≤l.length∧∀ j,j<q→l.getD j eS=m.getD j eS) (fun q=>[(13,.o (.c (.int .i64 q)))]) [] (fun _=>[]) (fun q=>l.length - q) 0 (by rfl) ⟨Nat.zero_le _,fun j hj=>absurd hj (Nat.not_lt_zero _)⟩ ?_ ?_
  ·exact ee
  rintro q ⟨hq,hg⟩
  by_cases hlt:q<l.length
  ·by_cases he:l.getD q eS=m.getD q eS
   ·refine wc ?_
    refine TE.again' (q+1) ⟨by omega,fun j hj=>?_⟩ (by omega) ?_
    ·rcases Nat.lt_or_ge j q with h5 | h5
     ·exact hg j h5
     ·obtain rfl:j=q:=by omega
      exact he
    ·exact ee
   ·have hne:l≠m:=fun e=>he (by rw [e])
    refine wc ?_
    (refine TE.ret' io rfl tysOk (()) ?_ rfl (by rfl) ?_;all_goals (try (first|exact trivial|((with_reducible refine AllP.go ?_);dsimp only [AllP,appP];repeat' (first|refine And.intro ?_ ?_|exact zz)))))
    exact congrArg Value.bool (decide_eq_false hne).symm
  ·have heq:l=m:=plist_eq_of hlm fun k hk=>hg k (by omega)
   refine wc ?_
   (refine TE.ret' io rfl tysOk (()) ?_ rfl (by rfl) ?_;all_goals (try (first|exact trivial|((with_reducible refine AllP.go ?_);dsimp only [AllP,appP];repeat' (first|refine And.intro ?_ ?_|exact zz)))))
   exact congrArg Value.bool (decide_eq_true heq).symm
 ·have hne:l≠m:=fun e=>hlm (by rw [e])
  refine wc ?_
  (refine TE.ret' io rfl tysOk (()) ?_ rfl (by rfl) ?_;all_goals (try (first|exact trivial|((with_reducible refine AllP.go ?_);dsimp only [AllP,appP];repeat' (first|refine And.intro ?_ ?_|exact zz)))))
  exact congrArg Value.bool (decide_eq_false hne).symm
abbrev treesC (l:List Nd):Ct:=litC [[.sl 8 l.length (ndC l).cell]]
theorem tcheck_c (l:List Nd) (hl:l.length≤1000000) (hx:∀ x∈l,okN x):Con Tryz.prog 59 [.o (.own 0)] [.own 0 57 1 (treesC l)] 1 1 U (fun _=>.o (.c (.int .i64 (checkT l).2))) (fun _=>[.own 0 57 1 (treesC l)]):=by
 refine con_of Tryz.func59 rfl (by kernel_rfl) Tryz.ntmps59 rfl (by first | exact Nat.zero_le _ | decide) (fun _=>⟨rfl,rfl⟩) fun w S ν=>?_
 have hc:=check_c l hl hx
 refine wa ?_
 refine TE.loopG (fun q:Nat=>q≤1∧(q=1→(checkT l).2=0)) (fun q=>[(9,.o (.c (.int .i64 q)))]) [] (fun _=>[]) (fun q=>1 - q) 0 (by rfl) ⟨by omega,fun h=>by omega⟩ ?_ ?_
 ·exact ee
 rintro q ⟨hq,hg⟩
 by_cases h0:q=0
 ·subst h0
  refine wa ?_
  refine cw (hc) ?_
  intro _ _
  by_cases he:(checkT l).2≠0
  ·refine wb ?_
   exact po
  ·refine wb ?_
   refine TE.again' 1 ⟨by omega,fun _=>Decidable.not_not.1 he⟩ (by omega) ?_
   exact ee
 ·obtain rfl:q=1:=by omega
  rw [hg rfl]
  refine wa ?_
  exact po
theorem twalk_c (l:List Nd):Con Tryz.prog 60 [.o (.ro 8 l.length (ndC l).cell)] [] 0 1 U (fun _=>.o (.clo 97 [(0,0)])) (fun _=>[.box 0 57 [.ro 8 l.length (ndC l).cell]]):=by
 refine con_of Tryz.func60 rfl (by kernel_rfl) Tryz.ntmps60 rfl (by first | exact Nat.zero_le _ | decide) (fun _=>⟨rfl,rfl⟩) fun w S ν=>?_
 refine wc ?_
 exact po
theorem findI_at {l:List Nd} {p:List ByteArray} {q:Nat} (hq:q<l.length) (hg:∀ j,j<q→pathI l j≠p) (h:pathI l q=p):findI l p=q:=findF_at _ _ _ (Nat.zero_le _) (by omega) (fun j _ hj=>hg j hj) h
theorem findI_none {l:List Nd} {p:List ByteArray} (hg:∀ j,j<l.length→pathI l j≠p):findI l p = -1:=findF_none _ _ fun j _ hj=>hg j (by omega)
theorem tfind_c (l:List Nd) (p:List ByteArray) (hl:l.length≤1000000) (hp:p.length≤1000000) (hT:Tok l):Con Tryz.prog 93 [.o (.ro 8 l.length (ndC l).cell),.o (.ro 1 p.length (paC p).cell)] [] 0 0 U (fun _=>.o (.c (.int .i64 (findI l p)))) G0:=by
 refine con_of Tryz.func93 rfl (by kernel_rfl) Tryz.ntmps93 rfl (by first | exact Nat.zero_le _ | decide) (fun _=>⟨rfl,rfl⟩) fun w S ν=>?_
 refine wa ?_
 refine cw (twalk_c l) ?_
 intro _ _
 refine wb ?_
 (refine TE.range rfl (by rfl) (by rfl) (by kernel_rfl) (by rfl) (by rfl) rfl ?_)
 intro l' a1 w0 B0 S0 ν0 L
 (repeat (first|(with_reducible refine AllP.go ?_;first|exact og|((try simp only [OS]);repeat' (first|exact oj|refine And.intro ?_ ?_)))|(refine rg ?_ ?_)|(with_reducible first|refine stp ?_|refine tD rfl ?_)|(with_reducible first|exact PanicOk.body|exact rd.panic|refine PanicOk.then' ?_|refine PanicOk.block ?_|refine PanicOk.jump ?_)|(refine dc ?_)|(refine dn ?_)|(refine TL.done (by rfl) ?_)|(refine TL.auto tysOk rfl ?_ (by rfl) ?_ ?_)|((refine TL.one (by rfl) ?_);first|(refine sm ?_ ?_)|(refine sp ?_ ?_))|(refine sm ?_ ?_)|refine ct ?_|refine cf ?_))
 refine TE.nilOwn 3 9 1 (by rfl) ?_
 refine TE.loopG (fun q:Nat=>q≤l.length∧∀ j,j<q→pathI l j≠p) (fun q=>[(8,.o (.c (.int .i64 q))),(3,.o (.own 3))]) [3] (fun q=>[.own 3 9 1 (paC (pstI l q))]) (fun q=>l.length - q) 0 (by rfl) ⟨Nat.zero_le _,fun j hj=>absurd hj (Nat.not_lt_zero _)⟩ ?_ ?_
 ·(refine Ent.of rfl rfl (by rfl) ?_;(try (first|exact trivial|((with_reducible refine AllP.go ?_);dsimp only [AllP,appP];repeat' (first|refine And.intro ?_ ?_|exact zz)))))
  exact LeDC.nil rfl rfl
 rintro q ⟨hq,hg⟩
 by_cases hlt:q<l.length
 ·have hkp:(paC (pstI l q)).n=(pstI l q).length:=rfl
  obtain ⟨f1,f2,f3,f4,f5⟩:=walk_facts hT (q:=q) hlt
  have hpl:=(pcheck_iff.1 (path_ok hT q hlt)).1
  have hpp:pstI l (q+1)=pathI l q:=pstI_path hT hlt
  have heq:=equalO_c (pathI l q) p (by omega) hp
  rcases Nat.eq_zero_or_pos q with h0 | h0
  ·subst h0
   have e0:pathI l 0=[]:=rfl
   refine wa ?_
   (refine TE.only [26,25,24,8,7,6,3,1,0] (by rfl) ?_)
   (refine TE.yield L rfl (by rfl) (by rfl) rfl rfl (by rfl) (by rfl) (by rfl) rfl (by rfl) ?_)
   intro Qr w1 B1 S1 ν1 rd
   (repeat (first|(with_reducible refine AllP.go ?_;first|exact og|((try simp only [OS]);repeat' (first|exact oj|refine And.intro ?_ ?_)))|(refine rg ?_ ?_)|(with_reducible first|refine stp ?_|refine tD rfl ?_)|(with_reducible first|exact PanicOk.body|exact rd.panic|refine PanicOk.then' ?_|refine PanicOk.block ?_|refine PanicOk.jump ?_)|(refine dc ?_)|(refine dn ?_)|(refine TL.done (by rfl) ?_)|(refine TL.auto tysOk rfl ?_ (by rfl) ?_ ?_)|((refine TL.one (by rfl) ?_);first|(refine sm ?_ ?_)|(refine sp ?_ ?_))|(refine sm ?_ ?_)|refine ct ?_|refine cf ?_))
   refine rd.begin ?_
   clear rd
   intro w1 B1 S1 ν1 rd
   have heq0:=equalO_c (pstI l 0) p (by omega) hp
   have e1:pstI l 0=pathI l 0:=rfl
   refine wa ?_
   refine cw (heq0) ?_
   intro _ _
   by_cases hpe:pstI l 0=p
   ·refine wb ?_
    (refine rd.ret ?_;intro w2 B2 S2 ν2 L2;((refine rn ?_ ?_);(repeat' (first|(with_reducible refine AllP.go ?_;first|exact og|((try simp only [OS]);repeat' (first|exact oj|refine And.intro ?_ ?_)))|(refine rg ?_ ?_)|(with_reducible first|refine stp ?_|refine tD rfl ?_)|refine ct ?_|refine cf ?_|((first|refine gs ?_ ?_|refine gl ?_ ?_|refine gc ?_ ?_)<;>intro h<;>(try simp only [NS] at h)<;>(try exact xf)<;>(try refine rn ?_ ?_)))));refine TE.iterStop L2 io (by rfl) ?_;(repeat' (first|(with_reducible refine AllP.go ?_;first|exact og|((try simp only [OS]);repeat' (first|exact oj|refine And.intro ?_ ?_)))|(refine rg ?_ ?_)|(with_reducible first|refine stp ?_|refine tD rfl ?_)|refine ct ?_|refine cf ?_|((first|refine gs ?_ ?_|refine gl ?_ ?_|refine gc ?_ ?_)<;>intro h<;>(try simp only [NS] at h)<;>(try exact xf)<;>(try refine rn ?_ ?_)))))
    rw [findI_at hlt hg (e1.symm.trans hpe)]
    exact po
   ·refine wb ?_
    refine rd.normal ?_
    refine wb ?_
    refine TE.again' 1 ⟨by omega,fun j hj=>?_⟩ (by omega) ?_
    ·obtain rfl:j=0:=by omega
     exact fun h=>hpe (e1.trans h)
    ·rw [pstI_zero hlt]
     exact ee
  ·obtain ⟨k1,_⟩:=walk_at hT hlt h0
   have hps:=pstI_succ hlt h0
   have ht2:((pstI l q).take ((l.getD q n0).depth - 1).toNat).length=((l.getD q n0).depth - 1).toNat:=by rw [List.length_take];omega
   refine wa ?_
   refine TE.midG (ι:=Unit) (fun _=>True) (fun _=>[(3,.o (.own 3))]) [3] (fun _=>[.own 3 9 1 (paC (pstI l (q+1)))]) (by rfl) ?_ fun _ _=>?_
   ·have hdl:((headC (paC (pstI l q)) ((l.getD ((q:Nat):Int).toNat n0).depth - 1).toNat)).n=((l.getD q n0).depth - 1).toNat:=rfl
    (refine TE.drawK (fun i=>Nat.beq i 4) (by rfl) (by rfl) (by rfl) ?_)
    (repeat' (first|(with_reducible refine AllP.go ?_;first|exact og|((try simp only [OS]);repeat' (first|exact oj|refine And.intro ?_ ?_)))|(with_reducible first|exact PanicOk.body|exact rd.panic|refine PanicOk.then' ?_|refine PanicOk.block ?_|refine PanicOk.jump ?_)|(refine TL.done (by rfl) ?_)|(refine TL.auto tysOk rfl ?_ (by rfl) ?_ ?_)|((refine TL.one (by rfl) ?_);first|(refine sm ?_ ?_)|(refine sp ?_ ?_)|(refine StepL.law rfl rfl rfl (fun _ h=>nomatch h) rfl (m_nilO rfl rfl) (by rfl) ?_;rintro _ rfl)|(refine StepL.law rfl rfl rfl (fun _ h=>nomatch h) rfl (m_cutOwn tysOk rfl (und_slice tysOk rfl) rfl rfl rfl rfl rfl ?_) (by rfl) ?_;rotate_left;rintro _ rfl;rotate_right;first|omega|skip))|(refine sm ?_ ?_)|(refine sp ?_ ?_)|(refine StepL.law rfl rfl rfl (fun _ h=>nomatch h) rfl (m_nilO rfl rfl) (by rfl) ?_;rintro _ rfl)|(refine StepL.law rfl rfl rfl (fun _ h=>nomatch h) rfl (m_cutOwn tysOk rfl (und_slice tysOk rfl) rfl rfl rfl rfl rfl ?_) (by rfl) ?_;rotate_left;rintro _ rfl;rotate_right;first|omega|skip)|((first|refine gl ?_ ?_|refine gc ?_ ?_)<;>intro h<;>(try simp only [NS] at h)<;>(try exact xf))|(refine TL.two (by rfl) ?_ ?_)|(refine TL.three (by rfl) ?_ ?_ ?_)|(refine TL.four (by rfl) ?_ ?_ ?_ ?_)))
    all_goals first | (simp only [Int.toNat_natCast];rw [hkp];omega) | skip
    all_goals (repeat (with_reducible first|refine stp ?_|refine tD rfl ?_))
    all_goals (refine TE.at () trivial ?_;(refine Ent.of rfl rfl (by rfl) ?_;(try (first|exact trivial|((with_reducible refine AllP.go ?_);dsimp only [AllP,appP];repeat' (first|refine And.intro ?_ ?_|exact zz))))))
    all_goals exact (LeDC.app (head_take (by simp only [Int.toNat_natCast]) (by omega)) (LeDC.refl _ _)).trans (listC_snoc _ hps (nth1 rfl))
   (refine TE.only [8,7,6,4,3,1,0] (by rfl) ?_)
   refine wa ?_
   (refine TE.only [26,25,24,8,7,6,3,1,0] (by rfl) ?_)
   (refine TE.yield L rfl (by rfl) (by rfl) rfl rfl (by rfl) (by rfl) (by rfl) rfl (by rfl) ?_)
   intro Qr w1 B1 S1 ν1 rd
   (repeat (first|(with_reducible refine AllP.go ?_;first|exact og|((try simp only [OS]);repeat' (first|exact oj|refine And.intro ?_ ?_)))|(refine rg ?_ ?_)|(with_reducible first|refine stp ?_|refine tD rfl ?_)|(with_reducible first|exact PanicOk.body|exact rd.panic|refine PanicOk.then' ?_|refine PanicOk.block ?_|refine PanicOk.jump ?_)|(refine dc ?_)|(refine dn ?_)|(refine TL.done (by rfl) ?_)|(refine TL.auto tysOk rfl ?_ (by rfl) ?_ ?_)|((refine TL.one (by rfl) ?_);first|(refine sm ?_ ?_)|(refine sp ?_ ?_))|(refine sm ?_ ?_)|refine ct ?_|refine cf ?_))
   refine rd.begin ?_
   clear rd
   intro w1 B1 S1 ν1 rd
   have heq0:=equalO_c (pstI l (q+1)) p (by rw [hpp];omega) hp
   refine wa ?_
   refine cw (heq0) ?_
   intro _ _
   by_cases hpe:pstI l (q+1)=p
   ·refine wb ?_
    (refine rd.ret ?_;intro w2 B2 S2 ν2 L2;((refine rn ?_ ?_);(repeat' (first|(with_reducible refine AllP.go ?_;first|exact og|((try simp only [OS]);repeat' (first|exact oj|refine And.intro ?_ ?_)))|(refine rg ?_ ?_)|(with_reducible first|refine stp ?_|refine tD rfl ?_)|refine ct ?_|refine cf ?_|((first|refine gs ?_ ?_|refine gl ?_ ?_|refine gc ?_ ?_)<;>intro h<;>(try simp only [NS] at h)<;>(try exact xf)<;>(try refine rn ?_ ?_)))));refine TE.iterStop L2 io (by rfl) ?_;(repeat' (first|(with_reducible refine AllP.go ?_;first|exact og|((try simp only [OS]);repeat' (first|exact oj|refine And.intro ?_ ?_)))|(refine rg ?_ ?_)|(with_reducible first|refine stp ?_|refine tD rfl ?_)|refine ct ?_|refine cf ?_|((first|refine gs ?_ ?_|refine gl ?_ ?_|refine gc ?_ ?_)<;>intro h<;>(try simp only [NS] at h)<;>(try exact xf)<;>(try refine rn ?_ ?_)))))
    rw [findI_at hlt hg (hpp.symm.trans hpe)]
    exact po
   ·refine wb ?_
    refine rd.normal ?_
    refine wb ?_
    refine TE.again' (q+1) ⟨by omega,fun j hj=>?_⟩ (by omega) ?_
    ·rcases Nat.lt_or_ge j q with h4 | h4
     ·exact hg j h4
     ·obtain rfl:j=q:=by omega
      exact fun h=>hpe (hpp.trans h)
    ·exact ee
 ·obtain rfl:q=l.length:=by omega
  refine wa ?_
  refine TE.iterEnd L (by first | exact .inl rfl | exact .inr rfl) (by rfl) ?_
  refine wa ?_
  rw [findI_none hg]
  exact po
def okP (p:List ByteArray):Prop:=p.length≤1000000∧∀ s∈p,s.size≤1000000000
theorem tFind_c (l:List Nd) (p:List ByteArray) (hl:l.length≤1000000) (hx:∀ x∈l,okN x) (hp:okP p):Con Tryz.prog 50 [.o (.ro 8 l.length (ndC l).cell),.o (.ro 1 p.length (paC p).cell)] [] 0 0 U (fun _=>.t [.inl (.c (.int .i64 (findE l p).1)),.inl (.c (.int .i64 (findE l p).2))]) G0:=by
 refine con_of Tryz.func50 rfl (by kernel_rfl) Tryz.ntmps50 rfl (by first | exact Nat.zero_le _ | decide) (fun _=>⟨rfl,rfl⟩) fun w S ν=>?_
 have htc:=tcheck_c l hl hx
 refine wa ?_
 refine cw (htc) ?_
 intro _ _
 by_cases h1:(checkT l).2≠0
 ·rw [show findE l p=(0,(checkT l).2) from if_pos h1]
  refine wb ?_
  exact po
 have hE:findE l p=if pcheckE p≠0 then (0,pcheckE p) else if findI l p<0 then (0,4) else (findI l p,0):=if_neg h1
 have h1:=Decidable.not_not.1 h1
 have hT:Tok l:=h1
 refine wb ?_
 refine cw (pCheck_c p hp.2 hp.1) ?_
 intro _ _
 by_cases h2:pcheckE p≠0
 ·rw [if_pos h2] at hE
  rw [hE]
  refine wb ?_
  exact po
 rw [if_neg h2] at hE
 have hf:=tfind_c l p hl hp.1 hT
 refine wb ?_
 refine cw (hf) ?_
 intro _ _
 by_cases h3:findI l p<0
 ·rw [if_pos h3] at hE
  rw [hE]
  refine wb ?_
  exact po
 ·rw [if_neg h3] at hE
  rw [hE]
  refine wb ?_
  exact po
theorem okn_nds {l:List Bn} (hx:∀ x∈l,okB x):∀ x∈nds l,okN x:=fun x h=>by
 obtain ⟨y,hy,rfl⟩:=List.mem_map.1 h
 exact (hx y hy).1
theorem at_c (l:List Bn) (p:List ByteArray) (hl:l.length≤1000000) (hx:∀ x∈l,okB x) (hp:okP p):Con Tryz.prog 17 [.o (.ro 10 l.length (bnC l).cell),.o (.ro 1 p.length (paC p).cell)] [] 0 0 U (fun _=>.t [.inl (.c (.int .i64 (atE l p).1)),.inl (.c (.int .i64 (atE l p).2))]) G0:=by
 refine con_of Tryz.func17 rfl (by kernel_rfl) Tryz.ntmps17 rfl (by first | exact Nat.zero_le _ | decide) (fun _=>⟨rfl,rfl⟩) fun w S ν=>?_
 have hrc:=checkB_c l hl hx
 have hti:(nds l).length=l.length:=List.length_map ..
 have hrt:=tree_c l hl fun x h=>(hx x h).1.1
 have hf:=tFind_c (nds l) p (by omega) (okn_nds hx) hp
 refine wa ?_
 refine cw (hrc) ?_
 intro _ _
 by_cases h1:(checkB l).2≠0
 ·rw [show atE l p=(0,(checkB l).2) from if_pos h1]
  refine wb ?_
  exact po
 rw [show atE l p=findE (nds l) p from if_neg h1]
 refine wb ?_
 refine cw (hrt) ?_
 intro _ _
 refine wb ?_
 refine cw (hf) ?_
 intro _ _
 refine wb ?_
 exact po
theorem rat_c (l:List Nd) (p:List ByteArray) (hl:l.length≤1000000) (hp:p.length≤1000000) (hT:Tok l):Con Tryz.prog 118 [.o (.ro 8 l.length (ndC l).cell),.o (.ro 1 p.length (paC p).cell)] [] 0 0 U (fun _=>.o (.c (.int .i64 (findI l p)))) G0:=by
 refine con_of Tryz.func118 rfl (by kernel_rfl) Tryz.ntmps118 rfl (by first | exact Nat.zero_le _ | decide) (fun _=>⟨rfl,rfl⟩) fun w S ν=>?_
 refine wa ?_
 refine TE.loopG (fun q:Nat=>q≤l.length∧∀ j,j<q→pathI l j≠p) (fun q=>[(5,.o (.c (.int .i64 q)))]) [] (fun _=>[]) (fun q=>l.length - q) 0 (by rfl) ⟨Nat.zero_le _,fun j hj=>absurd hj (Nat.not_lt_zero _)⟩ ?_ ?_
 ·exact ee
 rintro q ⟨hq,hg⟩
 by_cases hlt:q<l.length
 ·have hrp:=rpath_c l hl hT q hlt
  have hpl:=(pcheck_iff.1 (path_ok hT q hlt)).1
  have hrs:=rsame_c (pathI l q) p (by omega) hp
  refine wa ?_
  refine cw (hrp) ?_
  intro _ _
  (refine TE.freezeN 0 (by rfl) (by rfl) ?_)
  ((refine rn ?_ ?_);try (with_reducible refine AllP.go ?_;first|exact og|((try simp only [OS]);repeat' (first|exact oj|refine And.intro ?_ ?_))))
  refine cw (hrs) ?_
  intro _ _
  by_cases he:pathI l q=p
  ·rw [findI_at hlt hg he]
   refine wb ?_
   exact po
  ·refine wb ?_
   refine TE.again' (q+1) ⟨by omega,fun j hj=>?_⟩ (by omega) ?_
   ·rcases Nat.lt_or_ge j q with h4 | h4
    ·exact hg j h4
    ·obtain rfl:j=q:=by omega
     exact he
   ·exact ee
 ·obtain rfl:q=l.length:=by omega
  rw [findI_none hg]
  refine wa ?_
  exact po
theorem rFind_c (l:List Nd) (p:List ByteArray) (hl:l.length≤1000000) (hx:∀ x∈l,okR x) (hp:okP p):Con Tryz.prog 84 [.o (.ro 8 l.length (ndC l).cell),.o (.ro 1 p.length (paC p).cell)] [] 0 0 U (fun _=>.t [.inl (.c (.int .i64 (findE l p).1)),.inl (.c (.int .i64 (findE l p).2))]) G0:=by
 refine con_of Tryz.func84 rfl (by kernel_rfl) Tryz.ntmps84 rfl (by first | exact Nat.zero_le _ | decide) (fun _=>⟨rfl,rfl⟩) fun w S ν=>?_
 have htc:=rcheck_c l hl hx
 refine wa ?_
 refine cw (htc) ?_
 intro _ _
 by_cases h1:(checkT l).2≠0
 ·rw [show findE l p=(0,(checkT l).2) from if_pos h1]
  refine wb ?_
  exact po
 have hE:findE l p=if pcheckE p≠0 then (0,pcheckE p) else if findI l p<0 then (0,4) else (findI l p,0):=if_neg h1
 have h1:=Decidable.not_not.1 h1
 have hT:Tok l:=h1
 refine wb ?_
 refine cw (prCheck_c p hp.2 hp.1) ?_
 intro _ _
 by_cases h2:pcheckE p≠0
 ·rw [if_pos h2] at hE
  rw [hE]
  refine wb ?_
  exact po
 rw [if_neg h2] at hE
 have hf:=rat_c l p hl hp.1 hT
 refine wb ?_
 refine cw (hf) ?_
 intro _ _
 by_cases h3:findI l p<0
 ·rw [if_pos h3] at hE
  rw [hE]
  refine wb ?_
  exact po
 ·rw [if_neg h3] at hE
  rw [hE]
  refine wb ?_
  exact po
end Go.Proofs.YtalmoocpebhoiaaGreatDoor.Am
namespace Go.Proofs.YtalmoocpebhoiaaGreatDoor.Am
open Go.RowKit Lw
open Br Wo
theorem writeO_c (m:Int) (te:TypeId) (pe:Value) (n:Nd) (p:List ByteArray) (hf:fieldsE n=0) (ha:At.checkE n.attrs=0) (hc:0≤n.cls∧n.cls≤120) (hp:pcheckE p=0):Con Tryz.prog 62 [.g (ndA n),.o (.own 5)] (glT m te pe++[.own 5 9 1 (paC p)]) 6 6 U (fun _=>.o (.c (.string (sB (rowT n p))))) (fun _=>glT m te pe++[.own 5 9 1 (paC p)]):=
 (write_c m te pe n p hf ha hc hp).borrow 9 1 (paC p) ⟨.inl ⟨rfl,rfl⟩,.inr ⟨rfl,rfl⟩,trivial⟩ rfl (fun _=>rfl) rfl (fun _=>rfl)
theorem tPrint_c (m:Int) (te:TypeId) (pe:Value) (l:List Nd) (hl:l.length≤1000000) (hx:∀ x∈l,okN x):Con Tryz.prog 21 [.o (.ro 8 l.length (ndC l).cell)] (glT m te pe) 5 5 U (fun _=>.t [.inl (.c (.string (sB (printT l).1))),.inl (.c (.int .i64 (printT l).2))]) (fun _=>glT m te pe):=by
 refine con_of Tryz.func21 rfl (by kernel_rfl) Tryz.ntmps21 rfl (by first | exact Nat.zero_le _ | decide) (fun _=>⟨rfl,rfl⟩) fun w S ν=>?_
 have htc:=tcheck_c l hl hx
 refine wa ?_
 refine cw (htc) ?_
 intro _ _
 by_cases h1:(checkT l).2≠0
 ·rw [show printT l=([],(checkT l).2) from if_pos h1]
  refine wb ?_
  exact po
 have hE:printT l=(textT l l.length,0):=if_neg h1
 have h1:=Decidable.not_not.1 h1
 have hT:Tok l:=h1
 refine wb ?_
 refine cw (twalk_c l) ?_
 intro _ _
 refine wb ?_
 (refine TE.range rfl (by rfl) (by rfl) (by kernel_rfl) (by rfl) (by rfl) rfl ?_)
 intro l' a1 w0 B0 S0 ν0 L
 (repeat (first|(with_reducible refine AllP.go ?_;first|exact og|((try simp only [OS]);repeat' (first|exact oj|refine And.intro ?_ ?_)))|(refine rg ?_ ?_)|(with_reducible first|refine stp ?_|refine tD rfl ?_)|(with_reducible first|exact PanicOk.body|exact rd.panic|refine PanicOk.then' ?_|refine PanicOk.block ?_|refine PanicOk.jump ?_)|(refine dc ?_)|(refine dn ?_)|(refine TL.done (by rfl) ?_)|(refine TL.auto tysOk rfl ?_ (by rfl) ?_ ?_)|((refine TL.one (by rfl) ?_);first|(refine sm ?_ ?_)|(refine sp ?_ ?_))|(refine sm ?_ ?_)|refine ct ?_|refine cf ?_))
 refine TE.nilBox 7 1 5 1 (by rfl) (by rfl) ?_
 refine TE.nilOwn 3 9 1 (by rfl) ?_
 refine TE.loop' (ι:=Nat) (fun q=>q≤l.length)
  (fun q=>match q with
  | 0=>⟨[(8,.o (.c (.int .i64 (0:Nat)))),(7,.o (.c (.int .i64 l.length))),(6,.o (.ro 8 l.length (ndC l).cell)),(3,.o (.own 10)),(0,.o (.c (.func (.yield l') #[] #[]))),(1,.o (.ptr 8 0))],.own 10 9 1 (paC (pstI l 0)) :: .own 9 5 1 (bytesC (textT l 0)) :: .box 8 57 [.ro 8 l.length (ndC l).cell] :: .box 5 57 [.ro 8 l.length (ndC l).cell] :: .box 7 100 [.c (.pointer none),.own 9] :: glT m te pe,11⟩
  | q+1=>⟨[(8,.o (.c (.int .i64 (q+1:Nat)))),(7,.o (.c (.int .i64 l.length))),(6,.o (.ro 8 l.length (ndC l).cell)),(3,.o (.own 10)),(0,.o (.c (.func (.yield l') #[] #[]))),(1,.o (.ptr 8 0))],.own 10 9 1 (paC (pstI l (q+1))) :: .own 9 5 1 (bytesC (textT l (q+1))) :: .box 8 57 [.ro 8 l.length (ndC l).cell] :: .box 5 57 [.ro 8 l.length (ndC l).cell] :: .box 7 100 [.ptr 7 0,.own 9] :: glT m te pe,11⟩)
  (fun q=>l.length - q) 0 (Nat.zero_le _) ?_ ?_
 ·(refine Ent.of rfl rfl (by rfl) ?_;(try (first|exact trivial|((with_reducible refine AllP.go ?_);dsimp only [AllP,appP];repeat' (first|refine And.intro ?_ ?_|exact zz)))))
  ·exact LeDC.nil rfl rfl
  ·exact LeDC.nil rfl rfl
 have h0l:0<l.length:=(tok_node hT).1
 rintro (_ | q) hq
 ·have e0:pstI l 0=[]:=rfl
  have e1:pathI l 0=[]:=rfl
  have hn0:=node_zero ((tok_node hT).2.2 0 h0l)
  have hw:=writeO_c m te pe (l.getD 0 n0) (pstI l 0) hn0.2.1 hn0.2.2.1 (cls_le hT h0l) (by rw [e0];decide)
  have hrow:=row_le hT h0l
  refine wa ?_
  (refine TE.only [26,25,24,8,7,6,3,1,0] (by rfl) ?_)
  (refine TE.yield L rfl (by rfl) (by rfl) rfl rfl (by rfl) (by rfl) (by rfl) rfl (by rfl) ?_)
  intro Qr w1 B1 S1 ν1 rd
  (repeat (first|(with_reducible refine AllP.go ?_;first|exact og|((try simp only [OS]);repeat' (first|exact oj|refine And.intro ?_ ?_)))|(refine rg ?_ ?_)|(with_reducible first|refine stp ?_|refine tD rfl ?_)|(with_reducible first|exact PanicOk.body|exact rd.panic|refine PanicOk.then' ?_|refine PanicOk.block ?_|refine PanicOk.jump ?_)|(refine dc ?_)|(refine dn ?_)|(refine TL.done (by rfl) ?_)|(refine TL.auto tysOk rfl ?_ (by rfl) ?_ ?_)|((refine TL.one (by rfl) ?_);first|(refine sm ?_ ?_)|(refine sp ?_ ?_))|(refine sm ?_ ?_)|refine ct ?_|refine cf ?_))
  refine rd.begin ?_
  clear rd
  intro w1 B1 S1 ν1 rd
  refine wa ?_
  refine cw (hw) ?_
  intro _ _
  ((refine rn ?_ ?_);try (with_reducible refine AllP.go ?_;first|exact og|((try simp only [OS]);repeat' (first|exact oj|refine And.intro ?_ ?_))))
  refine cw (blWSN_c [] (rowT (l.getD 0 n0) (pstI l 0)) (by rw [e0,← e1];simp only [List.length_nil];omega)) ?_
  intro _ _
  refine wb ?_
  refine rd.normal ?_
  refine wb ?_
  refine TE.again' (0+1) h0l (by omega) ?_
  have g1:pstI l (0+1)=pstI l 0:=pstI_zero h0l
  have g2:textT l (0+1)=[]++rowT (l.getD 0 n0) (pstI l 0):=textT_succ l 0
  (refine Ent.of rfl rfl (by rfl) ?_;(try (first|exact trivial|((with_reducible refine AllP.go ?_);dsimp only [AllP,appP];repeat' (first|refine And.intro ?_ ?_|exact zz)))))
  ·rw [g1]
   exact LeD.refl
  ·rw [g2]
   exact LeD.refl
 have hq1:q+1≤l.length:=hq
 by_cases hlt:q+1<l.length
 ·have hkp:(paC (pstI l (q+1))).n=(pstI l (q+1)).length:=rfl
  obtain ⟨f1,f2,f3,f4,f5⟩:=walk_facts hT (q:=q+1) hlt
  have hpp:pstI l (q+1+1)=pathI l (q+1):=pstI_path hT hlt
  have hpo:=path_ok hT (q+1) hlt
  have hn0:=node_zero ((tok_node hT).2.2 (q+1) hlt)
  have hw:=writeO_c m te pe (l.getD (q+1) n0) (pstI l (q+1+1)) hn0.2.1 hn0.2.2.1 (cls_le hT hlt) (by rw [hpp];exact hpo)
  have hrow:=row_le hT hlt
  have htx:=text_le hT (q+1) hq1
  have hl120:=(tok_node hT).2.1
  obtain ⟨k1,_⟩:=walk_at hT hlt (Nat.succ_pos q)
  have hps:=pstI_succ hlt (Nat.succ_pos q)
  have ht2:((pstI l (q+1)).take ((l.getD (q+1) n0).depth - 1).toNat).length=((l.getD (q+1) n0).depth - 1).toNat:=by rw [List.length_take];omega
  refine wa ?_
  refine TE.midG (ι:=Unit) (fun _=>True) (fun _=>[(3,.o (.own 10))]) [10] (fun _=>[.own 10 9 1 (paC (pstI l (q+1+1)))]) (by rfl) ?_ fun _ _=>?_
  ·have hdl:((headC (paC (pstI l (q+1))) ((l.getD (((q+1:Nat)):Int).toNat n0).depth - 1).toNat)).n=((l.getD (q+1) n0).depth - 1).toNat:=rfl
   (refine TE.drawK (fun i=>Nat.beq i 11) (by rfl) (by rfl) (by rfl) ?_)
   (repeat' (first|(with_reducible refine AllP.go ?_;first|exact og|((try simp only [OS]);repeat' (first|exact oj|refine And.intro ?_ ?_)))|(with_reducible first|exact PanicOk.body|exact rd.panic|refine PanicOk.then' ?_|refine PanicOk.block ?_|refine PanicOk.jump ?_)|(refine TL.done (by rfl) ?_)|(refine TL.auto tysOk rfl ?_ (by rfl) ?_ ?_)|((refine TL.one (by rfl) ?_);first|(refine sm ?_ ?_)|(refine sp ?_ ?_)|(refine StepL.law rfl rfl rfl (fun _ h=>nomatch h) rfl (m_nilO rfl rfl) (by rfl) ?_;rintro _ rfl)|(refine StepL.law rfl rfl rfl (fun _ h=>nomatch h) rfl (m_cutOwn tysOk rfl (und_slice tysOk rfl) rfl rfl rfl rfl rfl ?_) (by rfl) ?_;rotate_left;rintro _ rfl;rotate_right;first|omega|skip))|(refine sm ?_ ?_)|(refine sp ?_ ?_)|(refine StepL.law rfl rfl rfl (fun _ h=>nomatch h) rfl (m_nilO rfl rfl) (by rfl) ?_;rintro _ rfl)|(refine StepL.law rfl rfl rfl (fun _ h=>nomatch h) rfl (m_cutOwn tysOk rfl (und_slice tysOk rfl) rfl rfl rfl rfl rfl ?_) (by rfl) ?_;rotate_left;rintro _ rfl;rotate_right;first|omega|skip)|((first|refine gl ?_ ?_|refine gc ?_ ?_)<;>intro h<;>(try simp only [NS] at h)<;>(try exact xf))|(refine TL.two (by rfl) ?_ ?_)|(refine TL.three (by rfl) ?_ ?_ ?_)|(refine TL.four (by rfl) ?_ ?_ ?_ ?_)))
   all_goals first | (simp only [Int.toNat_natCast];rw [hkp];omega) | skip
   all_goals (repeat (with_reducible first|refine stp ?_|refine tD rfl ?_))
   all_goals (refine TE.at () trivial ?_;(refine Ent.of rfl rfl (by rfl) ?_;(try (first|exact trivial|((with_reducible refine AllP.go ?_);dsimp only [AllP,appP];repeat' (first|refine And.intro ?_ ?_|exact zz))))))
   all_goals exact (LeDC.app (head_take (by simp only [Int.toNat_natCast]) (by omega)) (LeDC.refl _ _)).trans (listC_snoc _ hps (nth1 rfl))
  (refine TE.only [8,7,6,4,3,1,0] (by rfl) ?_)
  refine wa ?_
  (refine TE.only [26,25,24,8,7,6,3,1,0] (by rfl) ?_)
  (refine TE.yield L rfl (by rfl) (by rfl) rfl rfl (by rfl) (by rfl) (by rfl) rfl (by rfl) ?_)
  intro Qr w1 B1 S1 ν1 rd
  (repeat (first|(with_reducible refine AllP.go ?_;first|exact og|((try simp only [OS]);repeat' (first|exact oj|refine And.intro ?_ ?_)))|(refine rg ?_ ?_)|(with_reducible first|refine stp ?_|refine tD rfl ?_)|(with_reducible first|exact PanicOk.body|exact rd.panic|refine PanicOk.then' ?_|refine PanicOk.block ?_|refine PanicOk.jump ?_)|(refine dc ?_)|(refine dn ?_)|(refine TL.done (by rfl) ?_)|(refine TL.auto tysOk rfl ?_ (by rfl) ?_ ?_)|((refine TL.one (by rfl) ?_);first|(refine sm ?_ ?_)|(refine sp ?_ ?_))|(refine sm ?_ ?_)|refine ct ?_|refine cf ?_))
  refine rd.begin ?_
  clear rd
  intro w1 B1 S1 ν1 rd
  refine wa ?_
  refine cw (hw) ?_
  intro _ _
  ((refine rn ?_ ?_);try (with_reducible refine AllP.go ?_;first|exact og|((try simp only [OS]);repeat' (first|exact oj|refine And.intro ?_ ?_))))
  refine cw (blWS_c (textT l (q+1)) (rowT (l.getD (q+1) n0) (pstI l (q+1+1))) (by rw [hpp];omega)) ?_
  intro _ _
  refine wb ?_
  refine rd.normal ?_
  refine wb ?_
  refine TE.again' (q+1+1) hlt (by omega) ?_
  have g2:textT l (q+1+1)=textT l (q+1)++rowT (l.getD (q+1) n0) (pstI l (q+1+1)):=by rw [textT_succ,hpp]
  (refine Ent.of rfl rfl (by rfl) ?_;(try (first|exact trivial|((with_reducible refine AllP.go ?_);dsimp only [AllP,appP];repeat' (first|refine And.intro ?_ ?_|exact zz)))))
  rw [g2]
  exact LeD.refl
 ·obtain hll:l.length=q+1:=by omega
  have hne:textT l (q+1)≠[]:=fun e=>by
   have:=congrArg List.length e
   rw [textT_succ,List.length_append] at this
   unfold rowT at this
   simp at this
  refine wa ?_
  refine TE.iterEnd L (by first | exact .inl rfl | exact .inr rfl) (by rfl) ?_
  refine wa ?_
  refine cw (blStr_c (textT l (q+1)) hne) ?_
  intro _ _
  refine wb ?_
  rw [hE,hll]
  exact po
end Go.Proofs.YtalmoocpebhoiaaGreatDoor.Am
namespace Go.Proofs.YtalmoocpebhoiaaGreatDoor.Am
open Go.RowKit Lw
open Br
theorem known_bok {l:List Bn} {n:Int} (h:knownE l n=0):Bok l:=by
 unfold knownE at h
 split at h
 ·rename_i c;exact absurd h c
 ·rename_i c;exact Decidable.not_not.1 c
theorem Kids_c (l:List Bn) (n:Int) (hl:l.length≤1000000) (hx:∀ x∈l,okB x):Con Tryz.prog 15 [.o (.ro 10 l.length (bnC l).cell),.o (.c (.int .i64 n))] [] 0 0 U (fun _=>.t [.inl (.ro 1 (kidsE l n).1.length (skC (kidsE l n).1).cell),.inl (.c (.int .i64 (kidsE l n).2))]) G0:=by
 refine con_of Tryz.func15 rfl (by kernel_rfl) Tryz.ntmps15 rfl (by first | exact Nat.zero_le _ | decide) (fun _=>⟨rfl,rfl⟩) fun w S ν=>?_
 have hti:(nds l).length=l.length:=List.length_map ..
 have hkn:=known_c l n hl hx
 refine wa ?_
 refine cw (hkn) ?_
 intro _ _
 by_cases h1:knownE l n≠0
 ·rw [show kidsE l n=([],knownE l n) from if_pos h1]
  refine wb ?_
  exact po
 have hK:kidsE l n=if (l.getD n.toNat b0).nd.kind≠1 then ([],14) else (kidsL l n,0):=if_neg h1
 have h1:=Decidable.not_not.1 h1
 obtain ⟨k,rfl,hk⟩:=known_at h1
 have hT:Tok (nds l):=bok_tok (known_bok h1)
 rw [Int.toNat_natCast] at hK
 by_cases h2:(l.getD k b0).nd.kind≠1
 ·rw [if_pos h2] at hK
  rw [hK]
  refine wb ?_
  exact po
 rw [if_neg h2] at hK
 rw [hK]
 refine wb ?_
 refine cw (walk_c l) ?_
 intro _ _
 refine wb ?_
 (refine TE.only [23,7,3] (by rfl) ?_)
 (refine TE.range rfl (by rfl) (by rfl) (by kernel_rfl) (by rfl) (by rfl) rfl ?_)
 intro l' a1 w0 B0 S0 ν0 L
 (repeat (first|(with_reducible refine AllP.go ?_;first|exact og|((try simp only [OS]);repeat' (first|exact oj|refine And.intro ?_ ?_)))|(refine rg ?_ ?_)|(with_reducible first|refine stp ?_|refine tD rfl ?_)|(with_reducible first|exact PanicOk.body|exact rd.panic|refine PanicOk.then' ?_|refine PanicOk.block ?_|refine PanicOk.jump ?_)|(refine dc ?_)|(refine dn ?_)|(refine TL.done (by rfl) ?_)|(refine TL.auto tysOk rfl ?_ (by rfl) ?_ ?_)|((refine TL.one (by rfl) ?_);first|(refine sm ?_ ?_)|(refine sp ?_ ?_))|(refine sm ?_ ?_)|refine ct ?_|refine cf ?_))
 refine TE.nilOwn 3 3 1 (by rfl) ?_
 refine TE.nilOwn 4 9 1 (by rfl) ?_
 refine TE.nilBox 1 0 3 1 (by rfl) (by rfl) ?_
 refine TE.loopG (fun q:Nat=>q≤l.length∧True) (fun q=>[(10,.o (.c (.int .i64 q))),(3,.o (.own 3)),(4,.o (.own 4))]) [3,4,5] (fun q=>[.own 3 3 1 (skC (stkI (nds l) q)),.own 4 9 1 (paC (pstI (nds l) q)),.own 5 3 1 (skC (idxs (fun i=>decide (aboveI (nds l) i=(k:Int))) q))]) (fun q=>l.length - q) 0 (by rfl) ⟨Nat.zero_le _,trivial⟩ ?_ ?_
 ·(refine Ent.of rfl rfl (by rfl) ?_;(try (first|exact trivial|((with_reducible refine AllP.go ?_);dsimp only [AllP,appP];repeat' (first|refine And.intro ?_ ?_|exact zz)))))
  all_goals first | exact LeDC.nil rfl rfl
 rintro q ⟨hq,hg⟩
 by_cases hlt:q<l.length
 ·have hxd:((nds l).getD q n0).depth=(l.getD q b0).nd.depth:=by rw [nds_getD]
  have hxnm:((nds l).getD q n0).name=(l.getD q b0).nd.name:=by rw [nds_getD]
  have hks:(skC (stkI (nds l) q)).n=(stkI (nds l) q).length:=rfl
  have hkp:(paC (pstI (nds l) q)).n=(pstI (nds l) q).length:=rfl
  obtain ⟨f1,f2,f3,f4,f5⟩:=walk_facts hT (q:=q) (by omega)
  rw [hxd] at f1 f2 f3
  have ht1:((stkI (nds l) q).take (l.getD q b0).nd.depth.toNat).length=(l.getD q b0).nd.depth.toNat:=by rw [List.length_take];omega
  have ht2:((pstI (nds l) q).take ((l.getD q b0).nd.depth - 1).toNat).length=((l.getD q b0).nd.depth - 1).toNat:=by rw [List.length_take];omega
  refine wa ?_
  refine TE.midG (ι:=Unit) (fun _=>True) (fun _=>[(3,.o (.own 3)),(4,.o (.own 4))]) [3,4] (fun _=>[.own 3 3 1 (skC ((stkI (nds l) q).take (l.getD q b0).nd.depth.toNat)),.own 4 9 1 (paC ((pstI (nds l) q).take ((l.getD q b0).nd.depth - 1).toNat))]) (by rfl) ?_ fun _ _=>?_
  ·(refine TE.drawK (fun i=>!(Nat.beq i 3 || Nat.beq i 4)) (by rfl) (by rfl) (by rfl) ?_)
   (repeat' (first|(with_reducible refine AllP.go ?_;first|exact og|((try simp only [OS]);repeat' (first|exact oj|refine And.intro ?_ ?_)))|(with_reducible first|exact PanicOk.body|exact rd.panic|refine PanicOk.then' ?_|refine PanicOk.block ?_|refine PanicOk.jump ?_)|(refine TL.done (by rfl) ?_)|(refine TL.auto tysOk rfl ?_ (by rfl) ?_ ?_)|((refine TL.one (by rfl) ?_);first|(refine sm ?_ ?_)|(refine sp ?_ ?_)|(refine StepL.law rfl rfl rfl (fun _ h=>nomatch h) rfl (m_nilO rfl rfl) (by rfl) ?_;rintro _ rfl)|(refine StepL.law rfl rfl rfl (fun _ h=>nomatch h) rfl (m_cutOwn tysOk rfl (und_slice tysOk rfl) rfl rfl rfl rfl rfl ?_) (by rfl) ?_;rotate_left;rintro _ rfl;rotate_right;first|omega|skip))|(refine sm ?_ ?_)|(refine sp ?_ ?_)|(refine StepL.law rfl rfl rfl (fun _ h=>nomatch h) rfl (m_nilO rfl rfl) (by rfl) ?_;rintro _ rfl)|(refine StepL.law rfl rfl rfl (fun _ h=>nomatch h) rfl (m_cutOwn tysOk rfl (und_slice tysOk rfl) rfl rfl rfl rfl rfl ?_) (by rfl) ?_;rotate_left;rintro _ rfl;rotate_right;first|omega|skip)|((first|refine gl ?_ ?_|refine gc ?_ ?_)<;>intro h<;>(try simp only [NS] at h)<;>(try exact xf))|(refine TL.two (by rfl) ?_ ?_)|(refine TL.three (by rfl) ?_ ?_ ?_)|(refine TL.four (by rfl) ?_ ?_ ?_ ?_)))
   all_goals first | (simp only [Int.toNat_natCast];rw [hks];omega) | skip
   all_goals (repeat (with_reducible first|refine stp ?_|refine tD rfl ?_))
   all_goals (refine TE.at () trivial ?_;(refine Ent.of rfl rfl (by rfl) ?_;(try (first|exact trivial|((with_reducible refine AllP.go ?_);dsimp only [AllP,appP];repeat' (first|refine And.intro ?_ ?_|exact zz))))))
   all_goals first
    | exact head_take (by simp only [Int.toNat_natCast];rw [hks];omega) (by omega)
    | exact head_take (by simp only [Int.toNat_natCast];rw [hkp];omega) (by omega)
  (repeat (with_reducible first|refine stp ?_|refine tD rfl ?_))
  ((refine rg ?_ ?_);try (with_reducible refine AllP.go ?_;first|exact og|((try simp only [OS]);repeat' (first|exact oj|refine And.intro ?_ ?_))))
  refine TE.done (TE.thenN ?_)
  refine TE.seq ?_
  refine TE.midG (ι:=Unit) (fun _=>True) (fun _=>[(4,.o (.own 4)),(7,.o (.c (.int .i64 (aboveI (nds l) q))))]) [4] (fun _=>[.own 4 9 1 (paC (pstI (nds l) (q+1)))]) (by rfl) ?_ fun _ _=>?_
  ·rcases Nat.eq_zero_or_pos q with h0 | h0
   ·subst h0
    obtain ⟨r1,r2,r3⟩:=walk_root hT
    rw [hxd] at r1
    have ht3:((stkI (nds l) 0).take (l.getD 0 b0).nd.depth.toNat).length=0:=by rw [ht1,r1];rfl
    refine wa ?_
    (refine TE.at () trivial ?_;(refine Ent.of rfl rfl (by rfl) ?_;(try (first|exact trivial|((with_reducible refine AllP.go ?_);dsimp only [AllP,appP];repeat' (first|refine And.intro ?_ ?_|exact zz))))))
    rw [r3,List.take_nil,pstI_zero (by omega)]
    exact LeD.refl
   ·obtain ⟨k1,_,_,_,_,k6⟩:=walk_at hT (q:=q) (by omega) h0
    rw [hxd] at k1 k6
    have hix:(((skC ((stkI (nds l) q).take (l.getD q b0).nd.depth.toNat)).n:Int) - 1).toNat=((l.getD q b0).nd.depth - 1).toNat:=by
     show ((((stkI (nds l) q).take (l.getD q b0).nd.depth.toNat).length:Int) - 1).toNat=_
     rw [ht1]
     omega
    have hps:=pstI_succ (l:=nds l) (q:=q) (by omega) h0
    rw [hxd,hxnm] at hps
    refine wa ?_
    (refine TE.at () trivial ?_;(refine Ent.of rfl rfl (by rfl) ?_;(try (first|exact trivial|((with_reducible refine AllP.go ?_);dsimp only [AllP,appP];repeat' (first|refine And.intro ?_ ?_|exact zz))))))
    ·refine congrArg (Value.int _) ?_
     rw [hix,k6,getD_take (by omega)]
    ·exact listC_snoc _ hps (nth1 rfl)
  (refine TE.only [10,9,8,7,6,5,4,3,1,0] (by rfl) ?_)
  have hpl:(pstI (nds l) (q+1)).length≤1000000:=by rw [pstI_path hT (by omega)];have:=(pcheck_iff.1 (path_ok hT q (by omega))).1;omega
  refine wa ?_
  refine cw (cloneO_c (pstI (nds l) (q+1)) hpl) ?_
  intro _ _
  ((refine rn ?_ ?_);try (with_reducible refine AllP.go ?_;first|exact og|((try simp only [OS]);repeat' (first|exact oj|refine And.intro ?_ ?_))))
  (refine TE.freezeN 9 (by rfl) (by rfl) ?_)
  (refine TE.only [54,50,49,10,9,8,4,3,1,0] (by rfl) ?_)
  (refine TE.yield L rfl (by rfl) (by rfl) rfl rfl (by rfl) (by rfl) (by rfl) rfl (by rfl) ?_)
  intro Qr w1 B1 S1 ν1 rd
  (repeat (first|(with_reducible refine AllP.go ?_;first|exact og|((try simp only [OS]);repeat' (first|exact oj|refine And.intro ?_ ?_)))|(refine rg ?_ ?_)|(with_reducible first|refine stp ?_|refine tD rfl ?_)|(with_reducible first|exact PanicOk.body|exact rd.panic|refine PanicOk.then' ?_|refine PanicOk.block ?_|refine PanicOk.jump ?_)|(refine dc ?_)|(refine dn ?_)|(refine TL.done (by rfl) ?_)|(refine TL.auto tysOk rfl ?_ (by rfl) ?_ ?_)|((refine TL.one (by rfl) ?_);first|(refine sm ?_ ?_)|(refine sp ?_ ?_))|(refine sm ?_ ?_)|refine ct ?_|refine cf ?_))
  refine rd.begin ?_
  clear rd
  intro w1 B1 S1 ν1 rd
  have hpp:pstI (nds l) (q+1)=pathI (nds l) q:=pstI_path hT (by omega)
  have hst:=stkI_succ (l:=nds l) (q:=q) (by omega)
  rw [hxd] at hst
  have hs:=idxs_succ (fun i=>decide (aboveI (nds l) i=(k:Int))) q
  have hn:=idxs_len (fun i=>decide (aboveI (nds l) i=(k:Int))) q
  have hcn:(skC (idxs (fun i=>decide (aboveI (nds l) i=(k:Int))) q)).n≤q:=hn
  by_cases ha:aboveI (nds l) q=k
  ·rw [if_pos (decide_eq_true ha)] at hs
   refine wa ?_
   refine rd.normal ?_
   refine wb ?_
   refine TE.again' (q+1) ⟨by omega,trivial⟩ (by omega) ?_
   (refine Ent.of rfl rfl (by rfl) ?_;(try (first|exact trivial|((with_reducible refine AllP.go ?_);dsimp only [AllP,appP];repeat' (first|refine And.intro ?_ ?_|exact zz)))))
   all_goals first | exact listC_snoc _ hst (nth1 rfl) | exact listC_snoc _ hs (nth1 rfl)
  ·rw [if_neg (by simpa using ha)] at hs
   rw [← hs]
   refine wa ?_
   refine rd.normal ?_
   refine wb ?_
   refine TE.again' (q+1) ⟨by omega,trivial⟩ (by omega) ?_
   (refine Ent.of rfl rfl (by rfl) ?_;(try (first|exact trivial|((with_reducible refine AllP.go ?_);dsimp only [AllP,appP];repeat' (first|refine And.intro ?_ ?_|exact zz)))))
   all_goals first | exact listC_snoc _ hst (nth1 rfl) | exact listC_snoc _ hs (nth1 rfl)
 ·obtain rfl:q=l.length:=by omega
  refine wa ?_
  refine TE.iterEnd L (by first | exact .inl rfl | exact .inr rfl) (by rfl) ?_
  refine wa ?_
  (refine TE.freezeN 5 (by rfl) (by rfl) ?_)
  exact po
end Go.Proofs.YtalmoocpebhoiaaGreatDoor.Am
namespace Go.Proofs.YtalmoocpebhoiaaGreatDoor.Am
open Go.RowKit Lw
open Br Wo
theorem bPrint_c (m:Int) (te:TypeId) (pe:Value) (l:List Bn) (hl:l.length≤1000000) (hx:∀ x∈l,okB x):Con Tryz.prog 7 [.o (.ro 10 l.length (bnC l).cell)] (glT m te pe) 5 5 U (fun _=>.t [.inl (.c (.string (sB (printB l).1))),.inl (.c (.int .i64 (printB l).2))]) (fun _=>glT m te pe):=by
 refine con_of Tryz.func7 rfl (by kernel_rfl) Tryz.ntmps7 rfl (by first | exact Nat.zero_le _ | decide) (fun _=>⟨rfl,rfl⟩) fun w S ν=>?_
 have hti:(nds l).length=l.length:=List.length_map ..
 have hrc:=checkB_c l hl hx
 have hrt:=tree_c l hl fun x h=>(hx x h).1.1
 have hpr:=tPrint_c m te pe (nds l) (by omega) (okn_nds hx)
 refine wa ?_
 refine cw (hrc) ?_
 intro _ _
 by_cases h1:(checkB l).2≠0
 ·rw [show printB l=([],(checkB l).2) from if_pos h1]
  refine wb ?_
  exact po
 have hE:printB l=(textT (nds l) l.length++markT l l.length,0):=if_neg h1
 have h1:=Decidable.not_not.1 h1
 have hB:Bok l:=h1
 have hT:Tok (nds l):=bok_tok hB
 have hP:printT (nds l)=(textT (nds l) l.length,0):=(if_neg (fun k=>k hT)).trans (by rw [hti])
 rw [hP] at hpr
 rw [hE]
 refine wb ?_
 refine cw (hrt) ?_
 intro _ _
 refine wb ?_
 refine cw (hpr) ?_
 intro _ _
 refine wb ?_
 refine cw (walk_c l) ?_
 intro _ _
 refine wb ?_
 (refine TE.range rfl (by rfl) (by rfl) (by kernel_rfl) (by rfl) (by rfl) rfl ?_)
 intro l' a1 w0 B0 S0 ν0 L
 (repeat (first|(with_reducible refine AllP.go ?_;first|exact og|((try simp only [OS]);repeat' (first|exact oj|refine And.intro ?_ ?_)))|(refine rg ?_ ?_)|(with_reducible first|refine stp ?_|refine tD rfl ?_)|(with_reducible first|exact PanicOk.body|exact rd.panic|refine PanicOk.then' ?_|refine PanicOk.block ?_|refine PanicOk.jump ?_)|(refine dc ?_)|(refine dn ?_)|(refine TL.done (by rfl) ?_)|(refine TL.auto tysOk rfl ?_ (by rfl) ?_ ?_)|((refine TL.one (by rfl) ?_);first|(refine sm ?_ ?_)|(refine sp ?_ ?_))|(refine sm ?_ ?_)|refine ct ?_|refine cf ?_))
 refine TE.nilOwn 3 3 1 (by rfl) ?_
 refine TE.nilOwn 4 9 1 (by rfl) ?_
 refine TE.loopG (fun q:Nat=>q≤l.length∧True) (fun q=>[(10,.o (.c (.int .i64 q))),(3,.o (.own 8)),(4,.o (.own 9))]) [8,9,6] (fun q=>[.own 8 3 1 (skC (stkI (nds l) q)),.own 9 9 1 (paC (pstI (nds l) q)),.box 6 9 [.c (.string (sB (textT (nds l) l.length++markT l q)))]]) (fun q=>l.length - q) 0 (by rfl) ⟨Nat.zero_le _,trivial⟩ ?_ ?_
 ·(refine Ent.of rfl rfl (by rfl) ?_;(try (first|exact trivial|((with_reducible refine AllP.go ?_);dsimp only [AllP,appP];repeat' (first|refine And.intro ?_ ?_|exact zz)))))
  all_goals first | exact LeDC.nil rfl rfl | (rw [show markT l 0=[] from rfl,List.append_nil])
 rintro q ⟨hq,hg⟩
 by_cases hlt:q<l.length
 ·have hxd:((nds l).getD q n0).depth=(l.getD q b0).nd.depth:=by rw [nds_getD]
  have hxnm:((nds l).getD q n0).name=(l.getD q b0).nd.name:=by rw [nds_getD]
  have hks:(skC (stkI (nds l) q)).n=(stkI (nds l) q).length:=rfl
  have hkp:(paC (pstI (nds l) q)).n=(pstI (nds l) q).length:=rfl
  obtain ⟨f1,f2,f3,f4,f5⟩:=walk_facts hT (q:=q) (by omega)
  rw [hxd] at f1 f2 f3
  have ht1:((stkI (nds l) q).take (l.getD q b0).nd.depth.toNat).length=(l.getD q b0).nd.depth.toNat:=by rw [List.length_take];omega
  have ht2:((pstI (nds l) q).take ((l.getD q b0).nd.depth - 1).toNat).length=((l.getD q b0).nd.depth - 1).toNat:=by rw [List.length_take];omega
  refine wa ?_
  refine TE.midG (ι:=Unit) (fun _=>True) (fun _=>[(3,.o (.own 8)),(4,.o (.own 9))]) [8,9] (fun _=>[.own 8 3 1 (skC ((stkI (nds l) q).take (l.getD q b0).nd.depth.toNat)),.own 9 9 1 (paC ((pstI (nds l) q).take ((l.getD q b0).nd.depth - 1).toNat))]) (by rfl) ?_ fun _ _=>?_
  ·(refine TE.drawK (fun i=>!(Nat.beq i 8 || Nat.beq i 9)) (by rfl) (by rfl) (by rfl) ?_)
   (repeat' (first|(with_reducible refine AllP.go ?_;first|exact og|((try simp only [OS]);repeat' (first|exact oj|refine And.intro ?_ ?_)))|(with_reducible first|exact PanicOk.body|exact rd.panic|refine PanicOk.then' ?_|refine PanicOk.block ?_|refine PanicOk.jump ?_)|(refine TL.done (by rfl) ?_)|(refine TL.auto tysOk rfl ?_ (by rfl) ?_ ?_)|((refine TL.one (by rfl) ?_);first|(refine sm ?_ ?_)|(refine sp ?_ ?_)|(refine StepL.law rfl rfl rfl (fun _ h=>nomatch h) rfl (m_nilO rfl rfl) (by rfl) ?_;rintro _ rfl)|(refine StepL.law rfl rfl rfl (fun _ h=>nomatch h) rfl (m_cutOwn tysOk rfl (und_slice tysOk rfl) rfl rfl rfl rfl rfl ?_) (by rfl) ?_;rotate_left;rintro _ rfl;rotate_right;first|omega|skip))|(refine sm ?_ ?_)|(refine sp ?_ ?_)|(refine StepL.law rfl rfl rfl (fun _ h=>nomatch h) rfl (m_nilO rfl rfl) (by rfl) ?_;rintro _ rfl)|(refine StepL.law rfl rfl rfl (fun _ h=>nomatch h) rfl (m_cutOwn tysOk rfl (und_slice tysOk rfl) rfl rfl rfl rfl rfl ?_) (by rfl) ?_;rotate_left;rintro _ rfl;rotate_right;first|omega|skip)|((first|refine gl ?_ ?_|refine gc ?_ ?_)<;>intro h<;>(try simp only [NS] at h)<;>(try exact xf))|(refine TL.two (by rfl) ?_ ?_)|(refine TL.three (by rfl) ?_ ?_ ?_)|(refine TL.four (by rfl) ?_ ?_ ?_ ?_)))
   all_goals first | (simp only [Int.toNat_natCast];rw [hks];omega) | skip
   all_goals (repeat (with_reducible first|refine stp ?_|refine tD rfl ?_))
   all_goals (refine TE.at () trivial ?_;(refine Ent.of rfl rfl (by rfl) ?_;(try (first|exact trivial|((with_reducible refine AllP.go ?_);dsimp only [AllP,appP];repeat' (first|refine And.intro ?_ ?_|exact zz))))))
   all_goals first
    | exact head_take (by simp only [Int.toNat_natCast];rw [hks];omega) (by omega)
    | exact head_take (by simp only [Int.toNat_natCast];rw [hkp];omega) (by omega)
  (repeat (with_reducible first|refine stp ?_|refine tD rfl ?_))
  ((refine rg ?_ ?_);try (with_reducible refine AllP.go ?_;first|exact og|((try simp only [OS]);repeat' (first|exact oj|refine And.intro ?_ ?_))))
  refine TE.done (TE.thenN ?_)
  refine TE.seq ?_
  refine TE.midG (ι:=Unit) (fun _=>True) (fun _=>[(4,.o (.own 9)),(7,.o (.c (.int .i64 (aboveI (nds l) q))))]) [9] (fun _=>[.own 9 9 1 (paC (pstI (nds l) (q+1)))]) (by rfl) ?_ fun _ _=>?_
  ·rcases Nat.eq_zero_or_pos q with h0 | h0
   ·subst h0
    obtain ⟨r1,r2,r3⟩:=walk_root hT
    rw [hxd] at r1
    have ht3:((stkI (nds l) 0).take (l.getD 0 b0).nd.depth.toNat).length=0:=by rw [ht1,r1];rfl
    refine wa ?_
    (refine TE.at () trivial ?_;(refine Ent.of rfl rfl (by rfl) ?_;(try (first|exact trivial|((with_reducible refine AllP.go ?_);dsimp only [AllP,appP];repeat' (first|refine And.intro ?_ ?_|exact zz))))))
    rw [r3,List.take_nil,pstI_zero (by omega)]
    exact LeD.refl
   ·obtain ⟨k1,_,_,_,_,k6⟩:=walk_at hT (q:=q) (by omega) h0
    rw [hxd] at k1 k6
    have hix:(((skC ((stkI (nds l) q).take (l.getD q b0).nd.depth.toNat)).n:Int) - 1).toNat=((l.getD q b0).nd.depth - 1).toNat:=by
     show ((((stkI (nds l) q).take (l.getD q b0).nd.depth.toNat).length:Int) - 1).toNat=_
     rw [ht1]
     omega
    have hps:=pstI_succ (l:=nds l) (q:=q) (by omega) h0
    rw [hxd,hxnm] at hps
    refine wa ?_
    (refine TE.at () trivial ?_;(refine Ent.of rfl rfl (by rfl) ?_;(try (first|exact trivial|((with_reducible refine AllP.go ?_);dsimp only [AllP,appP];repeat' (first|refine And.intro ?_ ?_|exact zz))))))
    ·refine congrArg (Value.int _) ?_
     rw [hix,k6,getD_take (by omega)]
    ·exact listC_snoc _ hps (nth1 rfl)
  (refine TE.only [10,9,8,7,6,5,4,3,1,0] (by rfl) ?_)
  have hpl:(pstI (nds l) (q+1)).length≤1000000:=by rw [pstI_path hT (by omega)];have:=(pcheck_iff.1 (path_ok hT q (by omega))).1;omega
  refine wa ?_
  refine cw (cloneO_c (pstI (nds l) (q+1)) hpl) ?_
  intro _ _
  ((refine rn ?_ ?_);try (with_reducible refine AllP.go ?_;first|exact og|((try simp only [OS]);repeat' (first|exact oj|refine And.intro ?_ ?_))))
  (refine TE.freezeN 13 (by rfl) (by rfl) ?_)
  (refine TE.only [54,50,49,10,9,8,4,3,1,0] (by rfl) ?_)
  (refine TE.yield L rfl (by rfl) (by rfl) rfl rfl (by rfl) (by rfl) (by rfl) rfl (by rfl) ?_)
  intro Qr w1 B1 S1 ν1 rd
  (repeat (first|(with_reducible refine AllP.go ?_;first|exact og|((try simp only [OS]);repeat' (first|exact oj|refine And.intro ?_ ?_)))|(refine rg ?_ ?_)|(with_reducible first|refine stp ?_|refine tD rfl ?_)|(with_reducible first|exact PanicOk.body|exact rd.panic|refine PanicOk.then' ?_|refine PanicOk.block ?_|refine PanicOk.jump ?_)|(refine dc ?_)|(refine dn ?_)|(refine TL.done (by rfl) ?_)|(refine TL.auto tysOk rfl ?_ (by rfl) ?_ ?_)|((refine TL.one (by rfl) ?_);first|(refine sm ?_ ?_)|(refine sp ?_ ?_))|(refine sm ?_ ?_)|refine ct ?_|refine cf ?_))
  refine rd.begin ?_
  clear rd
  intro w1 B1 S1 ν1 rd
  have hpp:pstI (nds l) (q+1)=pathI (nds l) q:=pstI_path hT (by omega)
  have hst:=stkI_succ (l:=nds l) (q:=q) (by omega)
  rw [hxd] at hst
  have hpq:pcheckE (pathI (nds l) q)=0:=path_ok hT q (by omega)
  have hpq2:=pcheck_iff.1 hpq
  have hmk:=(bok_iff.1 hB).2 q hlt
  have hpr2:=print_c (pstI (nds l) (q+1)) (fun s hs=>by rw [hpp] at hs;have:=(name_size (hpq2.2 s hs)).1;omega) hpl
  rw [show printE (pstI (nds l) (q+1))=(textS (pathI (nds l) q),0) by rw [hpp];exact if_neg (fun k=>k hpq)] at hpr2
  refine wa ?_
  refine cw (hpr2) ?_
  intro _ _
  ((refine rn ?_ ?_);try (with_reducible refine AllP.go ?_;first|exact og|((try simp only [OS]);repeat' (first|exact oj|refine And.intro ?_ ?_))))
  (repeat (with_reducible first|refine stp ?_|refine tD rfl ?_))
  ((refine rg ?_ ?_);try (with_reducible refine AllP.go ?_;first|exact og|((try simp only [OS]);repeat' (first|exact oj|refine And.intro ?_ ?_))))
  (simp only [Int.toNat_natCast])
  obtain ⟨ob,hob⟩:∃ ob,ob=(l.getD q b0).opq:=⟨_,rfl⟩
  rw [← hob]
  have hml:=mark_le hB q hq
  have hmr:=markR_le hB hlt
  have htl:=text_le hT l.length (by omega)
  have h120:=(tok_node hT).2.1
  have hz1:(sB (textT (nds l) l.length++markT l q)).size≤900000:=by rw [sB_size,List.length_append];omega
  have hs1:(⟨#[10]⟩:ByteArray).size=1:=rfl
  have hjo:=markF_join hT hlt hmk
  have hgo:=markF_good hT hlt hmk
  have hj:=Join_c m te pe (markF l q) (by omega)
  rw [hjo] at hj
  have hms:=markT_succ l q
  have hzl:(sB (lineI (markF l q))).size≤2000:=by rw [sB_size];have:=line_le (markF l q);omega
  have hz2:(sB (lineI (markF l q))++⟨#[10]⟩).size≤2001:=by rw [ByteArray.size_append];omega
  have hse0:markF l q≠[]→sB (textT (nds l) l.length++markT l q)++(sB (lineI (markF l q))++⟨#[10]⟩)=sB (textT (nds l) l.length++markT l (q+1)):=fun hne=>by
   rw [hms,show markR l q=lineI (markF l q)++[10] from if_neg hne,show (⟨#[10]⟩:ByteArray)=sB [10] from rfl,sB_app,sB_app,List.append_assoc]
  cases ob
  ·have hob:¬ (l.getD q b0).opq=true:=by rw [← hob];decide
   by_cases hre:(l.getD q b0).red=[]
   ·have hmf:markF l q=[]:=(if_neg hob).trans (if_neg (fun k=>k hre))
    have hr0:(l.getD q b0).red.length=0:=by rw [hre];rfl
    have hmr0:markT l (q+1)=markT l q:=by rw [hms,show markR l q=[] from if_pos hmf,List.append_nil]
    refine wa ?_
    refine rd.normal ?_
    refine wb ?_
    refine TE.again' (q+1) ⟨by omega,trivial⟩ (by omega) ?_
    rw [hmr0]
    (refine Ent.of rfl rfl (by rfl) ?_;(try (first|exact trivial|((with_reducible refine AllP.go ?_);dsimp only [AllP,appP];repeat' (first|refine And.intro ?_ ?_|exact zz)))))
    all_goals exact listC_snoc _ hst (nth1 rfl)
   ·have hmf:markF l q=[bf redW,qf (textL (pathI (nds l) q)),qf (textL (l.getD q b0).red)]:=(if_neg hob).trans (if_pos hre)
    have hr0:0<(l.getD q b0).red.length:=List.length_pos_iff.2 hre
    have hpr3:=((marks_zero hmk).2 hre).2.2.2
    have hpr4:=pcheck_iff.1 hpr3
    have hto:=print_c (l.getD q b0).red (fun s hs=>by have:=(name_size (hpr4.2 s hs)).1;omega) (by omega)
    rw [show printE (l.getD q b0).red=(textS (l.getD q b0).red,0) from if_neg (fun k=>k hpr3)] at hto
    have hse:=hse0 (by rw [hmf];simp)
    refine wa ?_
    refine cw (hto) ?_
    intro _ _
    refine wb ?_
    (refine TE.freezeN 15 (by rfl) (by rfl) ?_)
    have hj2:=hj
    rw [hmf] at hj2
    refine TE.callW (hj2) rfl (by rfl) (by rfl) rfl (by rfl) (by (first|exact trivial|((with_reducible refine AllP.go ?_);dsimp only [AllP,appP];repeat' (first|with_reducible rfl|with_reducible exact LeD.refl|refine And.intro ?_ ?_|exact vi|rfl|exact vb|exact trivial|(refine LeD.lit rfl ?_)|exact LeX.of_eq rfl|exact LeX.nil rfl|(refine LeX.lit rfl ?_)|refine nth1x ?_|refine nth2x ?_ ?_|refine nth3x ?_ ?_ ?_|refine nth4x ?_ ?_ ?_ ?_|exact LeD.refl)))) ?_
    intro _ _
    rw [← hmf]
    refine wb ?_
    refine rd.normal ?_
    refine wb ?_
    refine TE.again' (q+1) ⟨by omega,trivial⟩ (by omega) ?_
    rw [← hse]
    (refine Ent.of rfl rfl (by rfl) ?_;(try (first|exact trivial|((with_reducible refine AllP.go ?_);dsimp only [AllP,appP];repeat' (first|refine And.intro ?_ ?_|exact zz)))))
    all_goals exact listC_snoc _ hst (nth1 rfl)
  ·have hmf:markF l q=[bf opqW,qf (textL (pathI (nds l) q))]:=if_pos hob.symm
   have hse:=hse0 (by rw [hmf];simp)
   refine wa ?_
   (refine TE.freezeN 15 (by rfl) (by rfl) ?_)
   have hj2:=hj
   rw [hmf] at hj2
   refine TE.callW (hj2) rfl (by rfl) (by rfl) rfl (by rfl) (by (first|exact trivial|((with_reducible refine AllP.go ?_);dsimp only [AllP,appP];repeat' (first|with_reducible rfl|with_reducible exact LeD.refl|refine And.intro ?_ ?_|exact vi|rfl|exact vb|exact trivial|(refine LeD.lit rfl ?_)|exact LeX.of_eq rfl|exact LeX.nil rfl|(refine LeX.lit rfl ?_)|refine nth1x ?_|refine nth2x ?_ ?_|refine nth3x ?_ ?_ ?_|refine nth4x ?_ ?_ ?_ ?_|exact LeD.refl)))) ?_
   intro _ _
   rw [← hmf]
   refine wb ?_
   refine rd.normal ?_
   refine wb ?_
   refine TE.again' (q+1) ⟨by omega,trivial⟩ (by omega) ?_
   rw [← hse]
   (refine Ent.of rfl rfl (by rfl) ?_;(try (first|exact trivial|((with_reducible refine AllP.go ?_);dsimp only [AllP,appP];repeat' (first|refine And.intro ?_ ?_|exact zz)))))
   all_goals exact listC_snoc _ hst (nth1 rfl)
 ·obtain rfl:q=l.length:=by omega
  refine wa ?_
  refine TE.iterEnd L (by first | exact .inl rfl | exact .inr rfl) (by rfl) ?_
  refine wa ?_
  exact po
end Go.Proofs.YtalmoocpebhoiaaGreatDoor.Am
namespace Go.Proofs.YtalmoocpebhoiaaGreatDoor.Am
open Go.RowKit Lw Wo
abbrev intC (l:List Int):Ct:=listC intR 0 l
abbrev f0:Fld:=([],false)
theorem splitB_parts (c:UInt8) (l:Bs):((Lib.splitB (sB [c]) 0 (Lib.countB (sB l) (sB [c])) (sB l)).map (·.data.toList))=partsI c l:=by
 rw [Lib.splitB_data]
 exact split_parts c l
theorem split_c (m:Int) (te:TypeId) (pe:Value) (c:UInt8) (l:Bs) (hl:l.length≤100000000):Con Tryz.prog 75 [.o (.c (.string (sB l))),.o (.c (.string (sB [c])))] (glC m te pe) 4 4 U (fun _=>.o (.ro 1 (partsI c l).length (strsC (partsI c l)).cell)) (fun _=>glC m te pe):=by
 refine ⟨⟨Tryz.f75,Tryz.func75,by kernel_rfl,by kernel_rfl⟩,rfl,Nat.le_refl _,fun x=>⟨rfl,rfl⟩,fun w S ν vs hv ht hnd hbk hS=>?_⟩
 obtain rfl:=args2 hv
 refine Calls.mono (Tryz.strings_Split (sB l) (sB [c]) m w (by rw [sB_size];omega) (gl_max ht) (by show 1≤1;decide)) ?_
 rintro e w' ⟨rfl,rfl⟩
 obtain ⟨bs,hbs⟩:∃ bs,bs=Lib.splitB (sB [c]) 0 (Lib.countB (sB l) (sB [c])) (sB l):=⟨_,rfl⟩
 have hp:=splitB_parts c l
 rw [← hbs] at hp⊢
 have hlen:bs.length=(partsI c l).length:=by rw [← hp,List.length_map]
 have hcnt:Lib.countB (sB l) (sB [c])+1=(partsI c l).length:=by
  rw [← hlen,hbs]
  exact (Lib.splitB_all (sB [c]) (by show 1≤1;decide) 0 _ (sB l) rfl).symm
 have hpl:(partsI c l).length≤l.length+1:=parts_len c l []
 have e0:blks ν (glC m te pe)=[]:=allStat_blks (glC_all m te pe)
 have hsz:(w.alloc (.cells (bs.map Value.string).toArray 9)).heap.size=w.heap.size+1:=World.size_alloc _ _
 have gr:Gr w (w.alloc (.cells (bs.map Value.string).toArray 9)) S (fun b=>S b∨b=w.heap.size):=⟨by rw [hsz];omega,fun b _ hb=>Below.heap_alloc w _ b hb,fun b h=>.inl h⟩
 rw [hcnt]
 refine ⟨(),fun b=>S b∨b=w.heap.size,ν,_,rfl,trivial,?_,⟨rfl,rfl,rfl,by rw [hsz];omega,fun k hk _=>Below.heap_alloc w _ k hk⟩,fun _ _=>rfl,fun b h=>.inl h,fun b hb=>?_,stat_keep gr (glC_all m te pe) ht,?_,?_⟩
 ·refine ⟨_,_,rfl,Nat.le_refl _,?_,(fun h=>nomatch h),fun _=>⟨w.heap.size,0,rfl,.inr rfl,by rw [hsz];omega,fun i j hi hj=>?_⟩⟩
  ·unfold maxLen;omega
  ·obtain rfl:j=0:=by omega
   have hib:i<bs.length:=by omega
   refine ⟨.string bs[i],?_,?_,rfl⟩
   ·rw [Lib.cell_of_heap (World.alloc_heap_new w _)]
    simp [hib]
   ·show Value.string bs[i] = .string (sB ((partsI c l).getD i []))
    rw [← hp,List.getD_eq_getElem?_getD,List.getElem?_map,List.getElem?_eq_getElem hib]
    rfl
 ·rw [hsz]
  rcases hb with hb | rfl
  ·exact ⟨Nat.lt_succ_of_lt (hS b hb),.inl hb⟩
  ·exact ⟨Nat.lt_succ_self _,.inr (.inl (Nat.le_refl _))⟩
 ·show (blks ν (glC m te pe)).Nodup
  rw [e0];exact List.nodup_nil
 ·intro b hb
  have hb:b∈blks ν (glC m te pe):=hb
  rw [e0] at hb;exact nomatch hb
theorem last_ext {s:Bs} (h:s≠[]):(sB s).extract (s.length - 1) s.length=sB [s.getD (s.length - 1) 0]:=by
 have hp:0<s.length:=List.length_pos_iff.2 h
 rw [sB_ext,cut_drop (by omega),List.drop_of_length_le (by omega),show s.length - (s.length - 1)=1 by omega]
 rfl
theorem sfx_c (s:Bs) (hne:s≠[]) (hl:s.length≤100000000):Con Tryz.prog 109 [.o (.c (.string (sB s))),.o (.c (.string (sB [10])))] [] 0 0 U (fun _=>.o (.sb (decide (s.getD (s.length - 1) 0=10)))) G0:=by
 refine con_of Tryz.func109 rfl (by kernel_rfl) Tryz.ntmps109 rfl (by first | exact Nat.zero_le _ | decide) (fun _=>⟨rfl,rfl⟩) fun w S ν=>?_
 have hz:=sB_size s
 have hp:0<s.length:=List.length_pos_iff.2 hne
 have hz1:(sB [10]).size=1:=rfl
 refine wc ?_
 ·rw [show decide (s.getD (s.length - 1) 0=10)=decide ((sB s).extract (((sB s).size:Int) - ((sB [10]).size:Int)).toNat (((sB s).size:Int)).toNat=sB [10]) from decide_eq_decide.2 (by
   rw [hz1,hz,show ((s.length:Int) - ((1:Nat):Int)).toNat=s.length - 1 by omega,Int.toNat_natCast,last_ext hne,sB_inj]
   exact ⟨fun e=>by rw [e],fun e=>(List.cons.inj e).1⟩)]
  exact po
theorem sfxO_c (s:Bs) (h:s≠[]) (hl:s.length≤100000000):Con Tryz.prog 74 [.o (.c (.string (sB s))),.o (.c (.string (sB [10])))] [] 0 0 U (fun _=>.o (.sb (decide (s.getD (s.length - 1) 0=10)))) G0:=by
 refine con_of Tryz.func74 rfl (by kernel_rfl) Tryz.ntmps74 rfl (by first | exact Nat.zero_le _ | decide) (fun _=>⟨rfl,rfl⟩) fun w S ν=>?_
 refine wc ?_
 refine cw (sfx_c s h hl) ?_
 intro _ _
 refine wd ?_
 exact po
theorem Lines_c (m:Int) (te:TypeId) (pe:Value) (s:Bs) (hl:s.length≤100000000):Con Tryz.prog 33 [.o (.c (.string (sB s)))] (glC m te pe) 4 4 U (fun _=>.t [.inl (.ro 1 (linesI s).1.length (strsC (linesI s).1).cell),.inl (.c (.int .i64 (linesI s).2))]) (fun _=>glC m te pe):=by
 refine con_of Tryz.func33 rfl (by kernel_rfl) Tryz.ntmps33 rfl (by first | exact Nat.zero_le _ | decide) (fun _=>⟨rfl,rfl⟩) fun w S ν=>?_
 have hz:=sB_size s
 (repeat' (first|(with_reducible refine AllP.go ?_;first|exact og|((try simp only [OS]);repeat' (first|exact oj|refine And.intro ?_ ?_)))|(refine rg ?_ ?_)|(with_reducible first|refine stp ?_|refine tD rfl ?_)|refine ct ?_|refine cf ?_|((first|refine gs ?_ ?_|refine gl ?_ ?_|refine gc ?_ ?_)<;>intro h<;>(try simp only [NS] at h)<;>(try exact xf)<;>(try refine rn ?_ ?_))))
 ·rw [show linesI s=([],3) from if_pos (by omega)]
  exact po
 ·have e:s=[]:=List.length_eq_zero_iff.1 (by omega)
  rw [show linesI s=([],0) by unfold linesI;rw [if_neg (by omega),if_pos e]]
  exact po
 have hne:s≠[]:=fun e=>by subst e;simp_all
 have hp:0<s.length:=List.length_pos_iff.2 hne
 have hsf:=sfxO_c s hne hl
 by_cases h10:s.getD (s.length - 1) 0=10
 rotate_left
 ·rw [decide_eq_false h10] at hsf
  refine cw (hsf) ?_
  intro _ _
  refine wb ?_
  rw [show linesI s=([],6) by unfold linesI;rw [if_neg (by omega),if_neg hne,if_pos h10]]
  exact po
 rw [decide_eq_true h10] at hsf
 have hi:linesI s=if 5000<(partsI 10 (s.take (s.length - 1))).length then ([],3) else (partsI 10 (s.take (s.length - 1)),0):=by
  unfold linesI
  rw [if_neg (by omega),if_neg hne,if_neg (fun k=>k h10)]
 have hex:(sB s).extract (Int.toNat 0) (((sB s).size:Int) - 1).toNat=sB (s.take (s.length - 1)):=by
  rw [sB_ext,hz,show ((s.length:Int) - 1).toNat=s.length - 1 by omega]
  rfl
 refine cw (hsf) ?_
 intro _ _
 refine wb ?_
 rw [hex]
 refine cw (split_c m te pe 10 (s.take (s.length - 1)) (by rw [List.length_take];omega)) ?_
 intro _ _
 ((refine rn ?_ ?_);(repeat' (first|(with_reducible refine AllP.go ?_;first|exact og|((try simp only [OS]);repeat' (first|exact oj|refine And.intro ?_ ?_)))|(refine rg ?_ ?_)|(with_reducible first|refine stp ?_|refine tD rfl ?_)|refine ct ?_|refine cf ?_|((first|refine gs ?_ ?_|refine gl ?_ ?_|refine gc ?_ ?_)<;>intro h<;>(try simp only [NS] at h)<;>(try exact xf)<;>(try refine rn ?_ ?_)))))
 ·rw [hi,if_pos (by omega)]
  exact po
 ·rw [hi,if_neg (by omega)]
  exact po
theorem rLines_c (s:Bs) (hl:s.length≤100000000):Con Tryz.prog 40 [.o (.c (.string (sB s)))] [] 0 0 U (fun _=>.t [.inl (.ro 1 (linesI s).1.length (strsC (linesI s).1).cell),.inl (.c (.int .i64 (linesI s).2))]) G0:=by
 refine con_of Tryz.func40 rfl (by kernel_rfl) Tryz.ntmps40 rfl (by first | exact Nat.zero_le _ | decide) (fun _=>⟨rfl,rfl⟩) fun w S ν=>?_
 have hz:=sB_size s
 (repeat' (first|(with_reducible refine AllP.go ?_;first|exact og|((try simp only [OS]);repeat' (first|exact oj|refine And.intro ?_ ?_)))|(refine rg ?_ ?_)|(with_reducible first|refine stp ?_|refine tD rfl ?_)|refine ct ?_|refine cf ?_|((first|refine gs ?_ ?_|refine gl ?_ ?_|refine gc ?_ ?_)<;>intro h<;>(try simp only [NS] at h)<;>(try exact xf)<;>(try refine rn ?_ ?_))))
 ·rw [show linesI s=([],3) from if_pos (by omega)]
  exact po
 ·have e:s=[]:=List.length_eq_zero_iff.1 (by omega)
  rw [show linesI s=([],0) by unfold linesI;rw [if_neg (by omega),if_pos e]]
  exact po
 ·have hne:s≠[]:=fun e=>by subst e;simp_all
  have h10:¬ s.getD (s.length - 1) 0=10:=fun e=>by
   have h:¬ ((s.getD (((sB s).size:Int) - 1).toNat 0).toNat:Int)=10:=by assumption
   rw [show (((sB s).size:Int) - 1).toNat=s.length - 1 by omega,e] at h
   exact h rfl
  rw [show linesI s=([],6) by unfold linesI;rw [if_neg (by omega),if_neg hne,if_pos h10]]
  exact po
 have hne:s≠[]:=fun e=>by subst e;simp_all
 have hp:0<s.length:=List.length_pos_iff.2 hne
 have h10:s.getD (s.length - 1) 0=10:=UInt8.toNat_inj.1 (by
  have h:((s.getD (((sB s).size:Int) - 1).toNat 0).toNat:Int)=10:=by assumption
  rw [show (((sB s).size:Int) - 1).toNat=s.length - 1 by omega] at h
  show _=10
  omega)
 have hi:linesI s=if 5000<(partsI 10 (s.take (s.length - 1))).length then ([],3) else (partsI 10 (s.take (s.length - 1)),0):=by
  unfold linesI
  rw [if_neg (by omega),if_neg hne,if_neg (fun k=>k h10)]
 refine TE.nilOwn 4 9 1 (by rfl) ?_
 (refine TE.only [6,5,4,0] (by rfl) ?_)
 refine TE.loopG (fun p:Nat×Nat×List Bs=>CutAt 10 s p.1 p.2.1 p.2.2) (fun p=>[(6,.o (.c (.int .i64 p.1))),(5,.o (.c (.int .i64 p.2.1))),(4,.o (.own 0))]) [0] (fun p=>[.own 0 9 1 (strsC p.2.2)]) (fun p=>s.length - p.1) (0,0,[]) (by rfl) (cut_start 10 s) ?_ ?_
 ·(refine Ent.of rfl rfl (by rfl) ?_;(try (first|exact trivial|((with_reducible refine AllP.go ?_);dsimp only [AllP,appP];repeat' (first|refine And.intro ?_ ?_|exact zz)))))
  exact LeDC.nil rfl rfl
 rintro ⟨i,k,out⟩ g
 have g1:=g.lo
 have g2:=g.hi
 have g3:=g.len
 dsimp only at g1 g2 g3
 have hon:(strsC out).n=out.length:=rfl
 (repeat' (first|(with_reducible refine AllP.go ?_;first|exact og|((try simp only [OS]);repeat' (first|exact oj|refine And.intro ?_ ?_)))|(refine rg ?_ ?_)|(with_reducible first|refine stp ?_|refine tD rfl ?_)|refine ct ?_|refine cf ?_|((first|refine gs ?_ ?_|refine gl ?_ ?_|refine gc ?_ ?_)<;>intro h<;>(try simp only [NS] at h)<;>(try exact xf)<;>(try refine rn ?_ ?_))))
 ·refine TE.again' (i+1,i+1,out++[(s.drop k).take (i - k)]) (cut_hit g (by omega) (UInt8.toNat_inj.1 (by
   show _=10
   omega))) (by dsimp only;omega) ?_
  (refine Ent.of rfl rfl (by rfl) ?_;(try (first|exact trivial|((with_reducible refine AllP.go ?_);dsimp only [AllP,appP];repeat' (first|refine And.intro ?_ ?_|exact zz)))))
  exact listC_snoc _ rfl (nth1 (by rw [sB_ext];rfl))
 ·refine TE.again' (i+1,k,out) (cut_miss g (by omega) (fun e=>by
   have h:¬ ((s.getD i 0).toNat:Int)=10:=by assumption
   exact h (by rw [e];rfl))) (by dsimp only;omega) ?_
  exact ee
 all_goals
  obtain rfl:i=s.length:=by omega
  have hcl:out=partsI 10 (s.take (s.length - 1)):=cut_line g hne h10
  rw [← hcl] at hi
 ·rw [hi,if_pos (by omega)]
  exact po
 ·rw [hi,if_neg (by omega)]
  (refine TE.freezeN 0 (by rfl) (by rfl) ?_)
  exact po
end Go.Proofs.YtalmoocpebhoiaaGreatDoor.Am
namespace Go.Proofs.YtalmoocpebhoiaaGreatDoor.Am
open Go.RowKit Lw
open Br Wo
theorem strs_pa (L:List Bs) {n:Nat} (hn:n=(L.map sB).length):LeD 1 L.length (strsC L).cell n (paC (L.map sB)).cell:=
 ⟨by rw [hn,List.length_map],fun i j hi hj=>LeX.of_eq (by
  obtain rfl:j=0:=by omega
  show DC.c (.string (sB (L.getD i [])))=DC.c (.string ((L.map sB).getD i eS))
  rw [List.getD_eq_getElem?_getD,List.getD_eq_getElem?_getD,List.getElem?_map,List.getElem?_eq_getElem hi]
  rfl)⟩
theorem pparse_slash (r:Bs):pparseE (47 :: r)=if r=[] then ([],0) else if pcheckE ((partsI 47 r).map sB)≠0 then ([],pcheckE ((partsI 47 r).map sB)) else ((partsI 47 r).map sB,0):=by simp [pparseE]
theorem hpx_c (s:Bs) (hl:s.length≤100000000):Con Tryz.prog 157 [.o (.c (.string (sB s))),.o (.c (.string (sB [47])))] [] 0 0 U (fun _=>.o (.sb (decide (s.head? = some 47)))) G0:=by
 refine con_of Tryz.func157 rfl (by kernel_rfl) Tryz.ntmps157 rfl (by first | exact Nat.zero_le _ | decide) (fun _=>⟨rfl,rfl⟩) fun w S ν=>?_
 have hz:=sB_size s
 have hz1:(sB [47]).size=1:=rfl
 (repeat' (first|(with_reducible refine AllP.go ?_;first|exact og|((try simp only [OS]);repeat' (first|exact oj|refine And.intro ?_ ?_)))|(refine rg ?_ ?_)|(with_reducible first|refine stp ?_|refine tD rfl ?_)|(with_reducible first|exact PanicOk.body|exact rd.panic|refine PanicOk.then' ?_|refine PanicOk.block ?_|refine PanicOk.jump ?_)|(refine dc ?_)|(refine dn ?_)|(refine TL.done (by rfl) ?_)|(refine TL.auto tysOk rfl ?_ (by rfl) ?_ ?_)|((refine TL.one (by rfl) ?_);first|(refine sm ?_ ?_)|(refine sp ?_ ?_))|(refine sm ?_ ?_)|refine ct ?_|refine cf ?_|((first|refine gs ?_ ?_|refine gl ?_ ?_|refine gc ?_ ?_)<;>intro h<;>(try simp only [NS] at h)<;>(try exact xf)<;>(try refine rn ?_ ?_))))
 ·have e:decide (s.head? = some 47)=decide ((sB s).extract (Int.toNat 0) ((((sB [47]).size:Nat):Int)).toNat=sB [47]):=decide_eq_decide.2 (by
   rw [hz1,sB_ext,sB_inj]
   cases s with
   | nil=>simp
   | cons c r=>simp)
  rw [e]
  exact po
 ·have e:s=[]:=List.length_eq_zero_iff.1 (by omega)
  rw [e]
  exact po
theorem cutp_c (s:Bs) (hl:s.length≤100000000):Con Tryz.prog 139 [.o (.c (.string (sB s))),.o (.c (.string (sB [47])))] [] 0 0 U (fun _=>.t [.inl (.c (.string (sB (if s.head? = some 47 then s.tail else s)))),.inl (.c (.bool (decide (s.head? = some 47))))]) G0:=by
 refine con_of Tryz.func139 rfl (by kernel_rfl) Tryz.ntmps139 rfl (by first | exact Nat.zero_le _ | decide) (fun _=>⟨rfl,rfl⟩) fun w S ν=>?_
 have hz:=sB_size s
 have hz1:(sB [47]).size=1:=rfl
 have hp:=hpx_c s hl
 refine wa ?_
 by_cases h:s.head? = some 47
 ·rw [decide_eq_true h] at hp⊢
  rw [if_pos h]
  have h1:1≤s.length:=by
   cases s with
   | nil=>cases h
   | cons c r=>simp
  refine cw (hp) ?_
  intro _ _
  refine wb ?_
  have e:(sB s).extract (((sB [47]).size:Nat):Int).toNat (((sB s).size:Nat):Int).toNat=sB s.tail:=by
   rw [hz1,hz,sB_ext]
   cases s with
   | nil=>cases h
   | cons c r=>simp
  rw [e]
  exact po
 ·rw [decide_eq_false h] at hp⊢
  rw [if_neg h]
  refine cw (hp) ?_
  intro _ _
  refine wb ?_
  exact po
theorem cutP_c (s:Bs) (hl:s.length≤100000000):Con Tryz.prog 115 [.o (.c (.string (sB s))),.o (.c (.string (sB [47])))] [] 0 0 U (fun _=>.t [.inl (.c (.string (sB (if s.head? = some 47 then s.tail else s)))),.inl (.c (.bool (decide (s.head? = some 47))))]) G0:=by
 refine con_of Tryz.func115 rfl (by kernel_rfl) Tryz.ntmps115 rfl (by first | exact Nat.zero_le _ | decide) (fun _=>⟨rfl,rfl⟩) fun w S ν=>?_
 refine wc ?_
 refine cw (cutp_c s hl) ?_
 intro _ _
 refine wd ?_
 exact po
theorem pParse_c (m:Int) (te:TypeId) (pe:Value) (s:Bs) (hl:s.length≤900000):Con Tryz.prog 80 [.o (.c (.string (sB s)))] (glC m te pe) 4 4 U (fun _=>.t [.inl (.ro 1 (pparseE s).1.length (paC (pparseE s).1).cell),.inl (.c (.int .i64 (pparseE s).2))]) (fun _=>glC m te pe):=by
 refine con_of Tryz.func80 rfl (by kernel_rfl) Tryz.ntmps80 rfl (by first | exact Nat.zero_le _ | decide) (fun _=>⟨rfl,rfl⟩) fun w S ν=>?_
 have hc:=cutP_c s (by omega)
 refine wa ?_
 by_cases h:s.head? = some 47
 rotate_left
 ·rw [decide_eq_false h] at hc
  refine cw (hc) ?_
  intro _ _
  have e:pparseE s=([],6):=by
   cases s with
   | nil=>rfl
   | cons c r=>exact if_pos (fun e=>h (by rw [e];rfl))
  rw [e]
  refine wb ?_
  exact po
 obtain ⟨r,rfl⟩:∃ r,s=47 :: r:=by
  cases s with
  | nil=>cases h
  | cons c r=>exact ⟨r,by injection h with h;rw [h]⟩
 rw [decide_eq_true h,if_pos h] at hc
 have hc:Con Tryz.prog 115 [.o (.c (.string (sB (47 :: r)))),.o (.c (.string (sB [47])))] [] 0 0 U (fun _=>.t [.inl (.c (.string (sB r))),.inl (.c (.bool true))]) G0:=hc
 have hrl:r.length≤900000:=by simp only [List.length_cons] at hl;omega
 have hE:pparseE (47 :: r)=if r=[] then ([],0) else if pcheckE ((partsI 47 r).map sB)≠0 then ([],pcheckE ((partsI 47 r).map sB)) else ((partsI 47 r).map sB,0):=pparse_slash r
 have hpl:(partsI 47 r).length≤r.length+1:=parts_len 47 r []
 have hps:=parts_size 47 r []
 have hchk:=pCheck_c ((partsI 47 r).map sB) (fun x hx=>by
  obtain ⟨y,hy,rfl⟩:=List.mem_map.1 hx
  have:=hps y hy
  have h2:=sB_size y
  simp only [List.length_nil] at this
  omega) (by rw [List.length_map];omega)
 refine cw (hc) ?_
 intro _ _
 have hrz:=sB_size r
 by_cases h0:r=[]
 ·subst h0
  rw [hE,if_pos rfl]
  refine wb ?_
  exact po
 rw [if_neg h0] at hE
 have h00:0<r.length:=List.length_pos_iff.2 h0
 refine wb ?_
 refine cw (split_c m te pe 47 r (by omega)) ?_
 intro _ _
 refine wb ?_
 refine TE.callW (hchk) rfl (by rfl) (by rfl) rfl (by rfl) ?_ ?_
 ·refine AllP.go ?_
  exact ⟨rfl,strs_pa _ rfl⟩
 intro _ _
 by_cases hpc:pcheckE ((partsI 47 r).map sB)≠0
 ·rw [hE,if_pos hpc]
  refine wb ?_
  exact po
 ·rw [hE,if_neg hpc]
  rw [Decidable.not_not.1 hpc]
  refine wb ?_
  (refine TE.ret' io rfl tysOk (()) ?_ rfl (by rfl) ?_;all_goals (try (first|exact trivial|((with_reducible refine AllP.go ?_);dsimp only [AllP,appP];repeat' (first|refine And.intro ?_ ?_|exact zz)))))
  exact strs_pa _ rfl
theorem rtext_c (p:List ByteArray) (hp:pcheckE p=0):Con Tryz.prog 71 [.o (.ro 1 p.length (paC p).cell)] [] 0 0 U (fun _=>.o (.c (.string (sB (textL p))))) G0:=by
 refine con_of Tryz.func71 rfl (by kernel_rfl) Tryz.ntmps71 rfl (by first | exact Nat.zero_le _ | decide) (fun _=>⟨rfl,rfl⟩) fun w S ν=>?_
 obtain ⟨h8,hn⟩:=pcheck_iff.1 hp
 (repeat' (first|(with_reducible refine AllP.go ?_;first|exact og|((try simp only [OS]);repeat' (first|exact oj|refine And.intro ?_ ?_)))|(refine rg ?_ ?_)|(with_reducible first|refine stp ?_|refine tD rfl ?_)|refine ct ?_|refine cf ?_|((first|refine gs ?_ ?_|refine gl ?_ ?_|refine gc ?_ ?_)<;>intro h<;>(try simp only [NS] at h)<;>(try exact xf)<;>(try refine rn ?_ ?_))))
 ·obtain rfl:p=[]:=List.length_eq_zero_iff.1 (by omega)
  exact po
 have hne:p≠[]:=fun e=>by subst e;simp_all
 refine TE.loopG (fun q:Nat=>q≤p.length) (fun q=>[(4,.o (.c (.int .i64 q))),(3,.o (.c (.string (sB (flatP (p.take q))))))]) [] (fun _=>[]) (fun q=>p.length - q) 0 (by rfl) (Nat.zero_le _) ?_ ?_
 ·exact ee
 intro q hq
 have hfl:=flatP_len (p:=p.take q) fun s hs=>hn s (List.mem_of_mem_take hs)
 have htl:(p.take q).length=q:=by rw [List.length_take];omega
 have hz:=sB_size (flatP (p.take q))
 by_cases hlt:q<p.length
 ·have hgs:=(name_size (hn _ (getD_mem (l:=p) (d:=eS) hlt))).1
  have hz1:(⟨#[47]⟩:ByteArray).size=1:=rfl
  have hz2:(sB (flatP (p.take q))++⟨#[47]⟩).size=(flatP (p.take q)).length+1:=by rw [ByteArray.size_append,hz,hz1]
  have he:sB (flatP (p.take q))++⟨#[47]⟩++p.getD q eS=sB (flatP (p.take (q+1))):=by
   rw [flatP_take hlt,show (⟨#[47]⟩:ByteArray)=sB [47] from rfl,← sB_bL (p.getD q eS),bL_sB,sB_app,sB_app,List.append_assoc]
   rfl
  refine wa ?_
  refine TE.again' (q+1) (by omega) (by omega) ?_
  rw [← he]
  exact ee
 ·obtain rfl:q=p.length:=by omega
  refine wa ?_
  rw [List.take_length,flatP_text hne]
  exact po
theorem rPrint_c (p:List ByteArray) (hp:∀ s∈p,s.size≤1000000000) (hl:p.length≤1000000):Con Tryz.prog 28 [.o (.ro 1 p.length (paC p).cell)] [] 0 0 U (fun _=>.t [.inl (.c (.string (printE p).1)),.inl (.c (.int .i64 (printE p).2))]) G0:=by
 refine con_of Tryz.func28 rfl (by kernel_rfl) Tryz.ntmps28 rfl (by first | exact Nat.zero_le _ | decide) (fun _=>⟨rfl,rfl⟩) fun w S ν=>?_
 refine wa ?_
 refine cw (prCheck_c p hp hl) ?_
 intro _ _
 by_cases h:pcheckE p≠0
 ·have hP:printE p=(eS,pcheckE p):=if_pos h
  rw [hP]
  refine wb ?_
  exact po
 have h:=Decidable.not_not.1 h
 have hP:printE p=(textS p,0):=if_neg (fun k=>k h)
 rw [hP]
 refine wb ?_
 refine cw (rtext_c p h) ?_
 intro _ _
 refine wb ?_
 exact po
theorem rpParse_c (s:Bs) (hl:s.length≤900000):Con Tryz.prog 83 [.o (.c (.string (sB s)))] [] 0 0 U (fun _=>.t [.inl (.ro 1 (pparseE s).1.length (paC (pparseE s).1).cell),.inl (.c (.int .i64 (pparseE s).2))]) G0:=by
 refine con_of Tryz.func83 rfl (by kernel_rfl) Tryz.ntmps83 rfl (by first | exact Nat.zero_le _ | decide) (fun _=>⟨rfl,rfl⟩) fun w S ν=>?_
 have hz:=sB_size s
 match s,hl,hz with
 | [],hl,hz=>
  refine wa ?_
  exact po
 | c :: r,hl,hz=>
 have hrz:(sB (c :: r)).size=r.length+1:=hz
 (repeat' (first|(with_reducible refine AllP.go ?_;first|exact og|((try simp only [OS]);repeat' (first|exact oj|refine And.intro ?_ ?_)))|(refine rg ?_ ?_)|(with_reducible first|refine stp ?_|refine tD rfl ?_)|refine ct ?_|refine cf ?_|((first|refine gs ?_ ?_|refine gl ?_ ?_|refine gc ?_ ?_)<;>intro h<;>(try simp only [NS] at h)<;>(try exact xf)<;>(try refine rn ?_ ?_))))
 ·have hc:c≠47:=fun e=>by subst e;exact h rfl
  rw [show pparseE (c :: r)=([],6) from if_pos hc]
  exact po
 ·have e:=sB_inj.1 (show sB (c :: r)=sB [47] from h)
  rw [e]
  exact po
 obtain rfl:c=47:=UInt8.toNat_inj.1 (by
  show _=47
  have h:(((sB (c :: r)).data.toList.getD (Int.toNat 0) 0).toNat:Int)=47:=by assumption
  exact Int.ofNat.inj h)
 have hr:r≠[]:=fun e=>by subst e;exact h rfl
 have hE:=pparse_slash r
 rw [if_neg hr] at hE
 have hpl:(partsI 47 r).length≤r.length+1:=parts_len 47 r []
 have hps:=parts_size 47 r []
 have hchk:=prCheck_c ((partsI 47 r).map sB) (fun x hx=>by
  obtain ⟨y,hy,rfl⟩:=List.mem_map.1 hx
  have:=hps y hy
  have h2:=sB_size y
  simp only [List.length_nil,List.length_cons] at this hl
  omega) (by rw [List.length_map];simp only [List.length_cons] at hl;omega)
 refine TE.nilOwn 4 9 1 (by rfl) ?_
 (refine TE.only [6,5,4,0] (by rfl) ?_)
 refine TE.loopG (fun p:Nat×Nat×List Bs=>(p.1≤r.length∧CutAt 47 r p.1 p.2.1 p.2.2)∨(p.1=r.length+1∧p.2.1≤r.length+1∧p.2.2=partsI 47 r)) (fun p=>[(6,.o (.c (.int .i64 ((p.1:Int)+1)))),(5,.o (.c (.int .i64 ((p.2.1:Int)+1)))),(4,.o (.own 0))]) [0] (fun p=>[.own 0 9 1 (strsC p.2.2)]) (fun p=>r.length+1 - p.1) (0,0,[]) (by rfl) (.inl ⟨Nat.zero_le _,cut_start 47 r⟩) ?_ ?_
 ·(refine Ent.of rfl rfl (by rfl) ?_;(try (first|exact trivial|((with_reducible refine AllP.go ?_);dsimp only [AllP,appP];repeat' (first|refine And.intro ?_ ?_|exact zz)))))
  exact LeDC.nil rfl rfl
 rintro ⟨i,k,out⟩ g
 dsimp only at g
 have hon:(strsC out).n=out.length:=rfl
 rcases g with ⟨gi,g⟩ | ⟨g1,g2,g3⟩
 ·have g1:=g.lo
  have g3:=g.len
  have hex:∀ j:Nat,DC.c (Value.string ((sB (47 :: r)).extract ((k:Int)+1).toNat ((j:Int)+1).toNat))=DC.c (.string (sB ((r.drop k).take (j - k)))):=fun j=>by
   rw [sB_ext,show ((k:Int)+1).toNat=k+1 by omega,show ((j:Int)+1).toNat - (k+1)=j - k by omega]
   rfl
  by_cases hlt:i<r.length
  ·(repeat' (first|(with_reducible refine AllP.go ?_;first|exact og|((try simp only [OS]);repeat' (first|exact oj|refine And.intro ?_ ?_)))|(refine rg ?_ ?_)|(with_reducible first|refine stp ?_|refine tD rfl ?_)|refine ct ?_|refine cf ?_|((first|refine gs ?_ ?_|refine gl ?_ ?_|refine gc ?_ ?_)<;>intro h<;>(try simp only [NS] at h)<;>(try exact xf)<;>(try refine rn ?_ ?_))))
   ·have hc:r.getD i 0=47:=UInt8.toNat_inj.1 (by
     have h:(((sB (47 :: r)).data.toList.getD ((i:Int)+1).toNat 0).toNat:Int)=47:=by assumption
     rw [show ((i:Int)+1).toNat=i+1 by omega] at h
     exact Int.ofNat.inj h)
    refine TE.again' (i+1,i+1,out++[(r.drop k).take (i - k)]) (.inl ⟨by dsimp only;omega,cut_hit g hlt hc⟩) (by dsimp only;omega) ?_
    (refine Ent.of rfl rfl (by rfl) ?_;(try (first|exact trivial|((with_reducible refine AllP.go ?_);dsimp only [AllP,appP];repeat' (first|refine And.intro ?_ ?_|exact zz)))))
    exact listC_snoc _ rfl (nth1 (hex i))
   ·have hc:r.getD i 0≠47:=fun e=>by
     have h:¬ (((sB (47 :: r)).data.toList.getD ((i:Int)+1).toNat 0).toNat:Int)=47:=by assumption
     rw [show ((i:Int)+1).toNat=i+1 by omega] at h
     exact h (by show ((r.getD i 0).toNat:Int)=47;rw [e];rfl)
    refine TE.again' (i+1,k,out) (.inl ⟨by dsimp only;omega,cut_miss g hlt hc⟩) (by dsimp only;omega) ?_
    exact ee
  ·obtain rfl:i=r.length:=by omega
   have hce:=cut_end g
   have htk:(r.drop k).take (r.length - k)=r.drop k:=List.take_of_length_le (by rw [List.length_drop];omega)
   refine wa ?_
   refine TE.again' (r.length+1,r.length+1,out++[r.drop k]) (.inr ⟨rfl,Nat.le_refl _,hce⟩) (by dsimp only;omega) ?_
   (refine Ent.of rfl rfl (by rfl) ?_;(try (first|exact trivial|((with_reducible refine AllP.go ?_);dsimp only [AllP,appP];repeat' (first|refine And.intro ?_ ?_|exact zz)))))
   exact listC_snoc _ rfl (nth1 (by rw [← htk];exact hex r.length))
 ·subst g1 g3
  refine wa ?_
  (refine TE.freezeN 0 (by rfl) (by rfl) ?_)
  refine TE.callW (hchk) rfl (by rfl) (by rfl) rfl (by rfl) ?_ ?_
  ·refine AllP.go ?_
   exact ⟨rfl,strs_pa _ rfl⟩
  intro _ _
  by_cases hpc:pcheckE ((partsI 47 r).map sB)≠0
  ·rw [hE,if_pos hpc]
   refine wb ?_
   exact po
  ·rw [hE,if_neg hpc]
   rw [Decidable.not_not.1 hpc]
   refine wb ?_
   (refine TE.ret' io rfl tysOk (()) ?_ rfl (by rfl) ?_;all_goals (try (first|exact trivial|((with_reducible refine AllP.go ?_);dsimp only [AllP,appP];repeat' (first|refine And.intro ?_ ?_|exact zz)))))
   exact strs_pa _ rfl
theorem sum_step {L:List Fld} (hL:L≠[]) (f:Fld):sB (lineI L)++⟨#[32]⟩++sB (wordOf f)=sB (lineI (L++[f])):=by
 rw [line_snoc,if_neg hL,show (⟨#[32]⟩:ByteArray)=sB [32] from rfl,sB_app,sB_app,List.append_assoc]
 rfl
theorem snoc_ne (L:List Fld) (f:Fld):L++[f]≠[]:=by simp
theorem words_c:Con Tryz.prog 104 [] [] 0 1 U (fun _=>.o (.own 0)) (fun _=>[.own 0 9 1 (strsC kindL)]):=by
 refine con_of Tryz.func104 rfl (by kernel_rfl) Tryz.ntmps104 rfl (by first | exact Nat.zero_le _ | decide) (fun _=>⟨rfl,rfl⟩) fun w S ν=>?_
 refine wa ?_
 (refine TE.ret' io rfl tysOk (()) ?_ rfl (by rfl) ?_;all_goals (try (first|exact trivial|((with_reducible refine AllP.go ?_);dsimp only [AllP,appP];repeat' (first|refine And.intro ?_ ?_|exact zz)))))
 exact listC_lit (by repeat' (first | exact trivial | exact LeX.of_eq rfl | refine nth1x ?_ | refine And.intro ?_ ?_))
theorem rline_c (n:Nd) (p:List ByteArray) (hf:fieldsE n=0) (ha:At.checkE n.attrs=0) (hc:0≤n.cls∧n.cls≤120) (hp:pcheckE p=0):Con Tryz.prog 69 [.g (ndA n),.o (.ro 1 p.length (paC p).cell)] [] 0 0 U (fun _=>.o (.c (.string (sB (lineI (lineF n p)))))) G0:=by
 refine con_of Tryz.func69 rfl (by kernel_rfl) Tryz.ntmps69 rfl (by first | exact Nat.zero_le _ | decide) (fun _=>⟨rfl,rfl⟩) fun w S ν=>?_
 obtain ⟨h8,hn⟩:=pcheck_iff.1 hp
 have hpr:=rPrint_c p (fun s hs=>by have:=(name_size (hn s hs)).1;omega) (by omega)
 have hP:printE p=(textS p,0):=if_neg (fun k=>k hp)
 rw [hP] at hpr
 obtain ⟨k1,k2,f1,f2,f3,f4,f5,f6⟩:=fields_zero hf
 have htl:=textL_le hp
 have hq:=rQuote_c (textL p) (by omega)
 refine wa ?_
 refine cw (hpr) ?_
 intro _ _
 refine wb ?_
 have hkl:kindL.length=6:=rfl
 have hkw:(sB (kindL.getD n.kind.toNat [])).size≤5:=by rw [sB_size];exact kindW_le n.kind
 have hs1:(⟨#[32]⟩:ByteArray).size=1:=rfl
 have hwt:=lineF_weight hf ha hc hp
 obtain ⟨L0,hL0⟩:∃ L0:List Fld,L0=[bf (kindW n.kind),qf (textL p)]:=⟨_,rfl⟩
 have hLF:lineF n p=L0++(numF n++(datF n++n.attrs.flatMap atF)):=by rw [hL0];simp [lineF]
 rw [hLF,weight_app,weight_app,weight_app] at hwt
 have hq2:=word_le (qf (textL p))
 have hq3:(wordOf (qf (textL p))).length=(quoteI (textL p)).length:=rfl
 have hq4:(qf (textL p)).1=textL p:=rfl
 rw [hq4] at hq2
 have hne0:L0≠[]:=by rw [hL0];simp
 have hs0:sB (kindL.getD n.kind.toNat [])++⟨#[32]⟩++sB (quoteI (textL p))=sB (lineI L0):=by
  rw [hL0,show [bf (kindW n.kind),qf (textL p)]=[bf (kindW n.kind)]++[qf (textL p)] from rfl,← sum_step (by simp),lineI_one]
  rfl
 have hl0:=line_le L0
 (refine TE.mid (ι:=Unit) (fun _=>True) (fun _=>⟨[(2,.o (.ptr 0 0)),(7,.o (.c (.string (sB (lineI L0)))))],[.box 0 53 (ndA n)],1⟩) ?_ fun _ _=>?_)
 ·refine TE.drawK (fun i=>Nat.beq i 0 || Nat.beq i 1) (by rfl) (by rfl) (by rfl) ?_
  refine wf ?_
  refine StepL.callW (words_c) rfl rfl rfl rfl rfl (by rfl) (by (first|exact trivial|((with_reducible refine AllP.go ?_);dsimp only [AllP,appP];repeat' (first|refine And.intro ?_ ?_|exact zz|assumption)))) (by rfl) (by rfl) ?_
  intro _ _
  refine wf ?_
  refine StepL.callW (hq) rfl rfl rfl rfl rfl (by rfl) (by (first|exact trivial|((with_reducible refine AllP.go ?_);dsimp only [AllP,appP];repeat' (first|refine And.intro ?_ ?_|exact zz|assumption)))) (by rfl) (by rfl) ?_
  intro _ _
  (repeat' (first|(with_reducible refine AllP.go ?_;first|exact og|((try simp only [OS]);repeat' (first|exact oj|refine And.intro ?_ ?_)))|(with_reducible first|exact PanicOk.body|exact rd.panic|refine PanicOk.then' ?_|refine PanicOk.block ?_|refine PanicOk.jump ?_)|(refine TL.done (by rfl) ?_)|(refine TL.auto tysOk rfl ?_ (by rfl) ?_ ?_)|(refine sm ?_ ?_)|(refine sp ?_ ?_)|(refine TL.one (by rfl) ?_)|(refine TL.two (by rfl) ?_ ?_)|(refine TL.three (by rfl) ?_ ?_ ?_)|(refine TL.four (by rfl) ?_ ?_ ?_ ?_)))
  all_goals first | (simp only [ByteArray.size_append,sB_size] at *;omega) | skip
  rw [← hs0]
  exact aa
 refine TE.thenN ?_
 have hne1:L0++numF n≠[]:=fun e=>hne0 (List.append_eq_nil_iff.1 e).1
 have hz0:(sB (lineI L0)).size≤4000:=by rw [sB_size];omega
 (refine TE.seqM (ι:=Unit) (fun _=>True) (fun _=>⟨[(2,.o (.ptr 0 0)),(7,.o (.c (.string (sB (lineI (L0++numF n))))))],[.box 0 53 (ndA n)],1⟩) ?_ fun _ _=>?_)
 ·have hd:=rDig_c _ n.cls (.inl ⟨hc.1,Nat.le_refl _⟩) (by omega)
  have hdl:(sB (Lib.itoa n.cls)).size≤18:=by rw [sB_size];exact itoa_le hc.1 (by omega)
  have hsz:(sB (lineI L0)++⟨#[32]⟩).size≤4001:=by rw [ByteArray.size_append];omega
  (repeat' (first|(with_reducible refine AllP.go ?_;first|exact og|((try simp only [OS]);repeat' (first|exact oj|refine And.intro ?_ ?_)))|(refine rg ?_ ?_)|(with_reducible first|refine stp ?_|refine tD rfl ?_)|refine ct ?_|refine cf ?_|((first|refine gs ?_ ?_|refine gl ?_ ?_|refine gc ?_ ?_)<;>intro h<;>(try simp only [NS] at h)<;>(try exact xf)<;>(try refine rn ?_ ?_))))
  all_goals first
   | (have hnum:numF n=[bf (Lib.itoa n.cls)]:=if_pos (decide_eq_true (by omega))
      rw [hnum,← sum_step hne0]
      refine cw (hd) ?_
      intro _ _
      refine wb ?_
      (refine TE.at () trivial ?_;(refine Ent.of rfl rfl (by rfl) ?_;(try (first|exact trivial|((with_reducible refine AllP.go ?_);dsimp only [AllP,appP];repeat' (first|refine And.intro ?_ ?_|exact zz)))))))
   | (have hnum:numF n=[]:=if_neg (fun k=>by have:n.kind=2∨n.kind=3∨n.kind=4:=of_decide_eq_true k;omega)
      rw [hnum,List.append_nil]
      (refine TE.at () trivial ?_;(refine Ent.of rfl rfl (by rfl) ?_;(try (first|exact trivial|((with_reducible refine AllP.go ?_);dsimp only [AllP,appP];repeat' (first|refine And.intro ?_ ?_|exact zz)))))))
 obtain ⟨L1,hL1⟩:∃ L1,L1=L0++numF n:=⟨_,rfl⟩
 rw [← hL1] at hne1⊢
 have hl1:=line_le L1
 rw [hL1,weight_app] at hl1
 have hz1:(sB (lineI L1)).size≤4000:=by rw [sB_size,hL1];omega
 have hdA:datF n=(if datK n.kind=true then [qf (bL n.data)] else [])++(if n.kind=4 then [bf (Lib.itoa n.major),bf (Lib.itoa n.minor)] else []):=by
  unfold datF
  by_cases h:datK n.kind=true
  ·have h2:n.kind=2∨n.kind=3:=of_decide_eq_true h
   rw [if_pos h,if_pos h,if_neg (by omega),List.append_nil]
  ·rw [if_neg h,if_neg h,List.nil_append]
 obtain ⟨A,hA⟩:∃ A:List Fld,A=if datK n.kind=true then [qf (bL n.data)] else []:=⟨_,rfl⟩
 obtain ⟨B,hB⟩:∃ B:List Fld,B=if n.kind=4 then [bf (Lib.itoa n.major),bf (Lib.itoa n.minor)] else []:=⟨_,rfl⟩
 rw [← hA,← hB] at hdA
 have hwd:weight (datF n)=weight A+weight B:=by rw [hdA,weight_app]
 (refine TE.seqM (ι:=Unit) (fun _=>True) (fun _=>⟨[(2,.o (.ptr 0 0)),(7,.o (.c (.string (sB (lineI (L1++A))))))],[.box 0 53 (ndA n)],1⟩) ?_ fun _ _=>?_)
 ·have hqd:=rQuote_c (bL n.data) (by have:(bL n.data).length=n.data.size:=rfl;omega)
  rw [sB_bL] at hqd
  have hdl:(sB (quoteI (bL n.data))).size≤2000:=by
   rw [sB_size]
   have h3:=word_le (qf (bL n.data))
   have h4:(wordOf (qf (bL n.data))).length=(quoteI (bL n.data)).length:=rfl
   have h5:(qf (bL n.data)).1.length=n.data.size:=rfl
   omega
  have hsz:(sB (lineI L1)++⟨#[32]⟩).size≤4001:=by rw [ByteArray.size_append];omega
  (repeat' (first|(with_reducible refine AllP.go ?_;first|exact og|((try simp only [OS]);repeat' (first|exact oj|refine And.intro ?_ ?_)))|(refine rg ?_ ?_)|(with_reducible first|refine stp ?_|refine tD rfl ?_)|refine ct ?_|refine cf ?_|((first|refine gs ?_ ?_|refine gl ?_ ?_|refine gc ?_ ?_)<;>intro h<;>(try simp only [NS] at h)<;>(try exact xf)<;>(try refine rn ?_ ?_))))
  ·have hnum:A=[qf (bL n.data)]:=hA.trans (if_pos (decide_eq_true (by omega)))
   rw [hnum,← sum_step hne1]
   refine cw (hqd) ?_
   intro _ _
   refine wb ?_
   exact aa
  ·have hnum:A=[qf (bL n.data)]:=hA.trans (if_pos (decide_eq_true (by omega)))
   rw [hnum,← sum_step hne1]
   refine cw (hqd) ?_
   intro _ _
   refine wb ?_
   exact aa
  ·have hnum:A=[]:=by rw [hA,if_neg (fun k=>by have:n.kind=2∨n.kind=3:=of_decide_eq_true k;omega)]
   rw [hnum,List.append_nil]
   exact aa
 obtain ⟨L2,hL2⟩:∃ L2,L2=L1++A:=⟨_,rfl⟩
 have hne2:L2≠[]:=fun e=>hne1 (List.append_eq_nil_iff.1 (hL2.symm.trans e)).1
 rw [← hL2]
 have hl2:=line_le L2
 rw [hL2,weight_app] at hl2
 have hz2:(sB (lineI L2)).size≤4000:=by rw [sB_size,hL2];rw [hL1] at hl2⊢;rw [weight_app] at hl2;omega
 (refine TE.seqM (ι:=Unit) (fun _=>True) (fun _=>⟨[(2,.o (.ptr 0 0)),(7,.o (.c (.string (sB (lineI (L2++B))))))],[.box 0 53 (ndA n)],1⟩) ?_ fun _ _=>?_)
 ·have hm:=rDig_c _ n.major (.inl ⟨f2.1,Nat.le_refl _⟩) (by omega)
  have hi:=rDig_c _ n.minor (.inl ⟨f3.1,Nat.le_refl _⟩) (by omega)
  have hml:(sB (Lib.itoa n.major)).size≤18:=by rw [sB_size];exact itoa_le f2.1 (by omega)
  have hil:(sB (Lib.itoa n.minor)).size≤18:=by rw [sB_size];exact itoa_le f3.1 (by omega)
  have hsz:(sB (lineI L2)++⟨#[32]⟩).size≤4001:=by rw [ByteArray.size_append];omega
  have hsz2:(sB (lineI L2)++⟨#[32]⟩++sB (Lib.itoa n.major)).size≤4020:=by rw [ByteArray.size_append];omega
  have hsz3:(sB (lineI L2)++⟨#[32]⟩++sB (Lib.itoa n.major)++⟨#[32]⟩).size≤4021:=by rw [ByteArray.size_append];omega
  (repeat' (first|(with_reducible refine AllP.go ?_;first|exact og|((try simp only [OS]);repeat' (first|exact oj|refine And.intro ?_ ?_)))|(refine rg ?_ ?_)|(with_reducible first|refine stp ?_|refine tD rfl ?_)|refine ct ?_|refine cf ?_|((first|refine gs ?_ ?_|refine gl ?_ ?_|refine gc ?_ ?_)<;>intro h<;>(try simp only [NS] at h)<;>(try exact xf)<;>(try refine rn ?_ ?_))))
  ·have hnum:B=[bf (Lib.itoa n.major),bf (Lib.itoa n.minor)]:=by rw [hB,if_pos (by omega)]
   have hse:sB (lineI L2)++⟨#[32]⟩++sB (Lib.itoa n.major)++⟨#[32]⟩++sB (Lib.itoa n.minor)=sB (lineI (L2++B)):=by
    rw [hnum,show L2++[bf (Lib.itoa n.major),bf (Lib.itoa n.minor)]=(L2++[bf (Lib.itoa n.major)])++[bf (Lib.itoa n.minor)] by simp,← sum_step (snoc_ne _ _),← sum_step hne2]
    rfl
   rw [← hse]
   (refine TE.drawK (fun i=>Nat.beq i 0) (by rfl) (by rfl) (by rfl) ?_)
   refine wf ?_
   all_goals first|((refine StepL.callW (hm) rfl rfl rfl rfl rfl (by rfl) ?_ (by rfl) (by rfl) ?_;focus ((first|exact trivial|((with_reducible refine AllP.go ?_);dsimp only [AllP,appP];repeat' (first|refine And.intro ?_ ?_|exact zz|assumption)));done));intro _ _;(repeat' (first|(with_reducible refine AllP.go ?_;first|exact og|((try simp only [OS]);repeat' (first|exact oj|refine And.intro ?_ ?_)))|(with_reducible first|exact PanicOk.body|exact rd.panic|refine PanicOk.then' ?_|refine PanicOk.block ?_|refine PanicOk.jump ?_)|(refine TL.done (by rfl) ?_)|(refine TL.auto tysOk rfl ?_ (by rfl) ?_ ?_)|(refine sm ?_ ?_)|(refine sp ?_ ?_)|(refine TL.one (by rfl) ?_)|(refine TL.two (by rfl) ?_ ?_)|(refine TL.three (by rfl) ?_ ?_ ?_)|(refine TL.four (by rfl) ?_ ?_ ?_ ?_))))|((refine StepL.callW (hi) rfl rfl rfl rfl rfl (by rfl) ?_ (by rfl) (by rfl) ?_;focus ((first|exact trivial|((with_reducible refine AllP.go ?_);dsimp only [AllP,appP];repeat' (first|refine And.intro ?_ ?_|exact zz|assumption)));done));intro _ _;(repeat' (first|(with_reducible refine AllP.go ?_;first|exact og|((try simp only [OS]);repeat' (first|exact oj|refine And.intro ?_ ?_)))|(with_reducible first|exact PanicOk.body|exact rd.panic|refine PanicOk.then' ?_|refine PanicOk.block ?_|refine PanicOk.jump ?_)|(refine TL.done (by rfl) ?_)|(refine TL.auto tysOk rfl ?_ (by rfl) ?_ ?_)|(refine sm ?_ ?_)|(refine sp ?_ ?_)|(refine TL.one (by rfl) ?_)|(refine TL.two (by rfl) ?_ ?_)|(refine TL.three (by rfl) ?_ ?_ ?_)|(refine TL.four (by rfl) ?_ ?_ ?_ ?_))))
   all_goals first|((refine StepL.callW (hm) rfl rfl rfl rfl rfl (by rfl) ?_ (by rfl) (by rfl) ?_;focus ((first|exact trivial|((with_reducible refine AllP.go ?_);dsimp only [AllP,appP];repeat' (first|refine And.intro ?_ ?_|exact zz|assumption)));done));intro _ _;(repeat' (first|(with_reducible refine AllP.go ?_;first|exact og|((try simp only [OS]);repeat' (first|exact oj|refine And.intro ?_ ?_)))|(with_reducible first|exact PanicOk.body|exact rd.panic|refine PanicOk.then' ?_|refine PanicOk.block ?_|refine PanicOk.jump ?_)|(refine TL.done (by rfl) ?_)|(refine TL.auto tysOk rfl ?_ (by rfl) ?_ ?_)|(refine sm ?_ ?_)|(refine sp ?_ ?_)|(refine TL.one (by rfl) ?_)|(refine TL.two (by rfl) ?_ ?_)|(refine TL.three (by rfl) ?_ ?_ ?_)|(refine TL.four (by rfl) ?_ ?_ ?_ ?_))))|((refine StepL.callW (hi) rfl rfl rfl rfl rfl (by rfl) ?_ (by rfl) (by rfl) ?_;focus ((first|exact trivial|((with_reducible refine AllP.go ?_);dsimp only [AllP,appP];repeat' (first|refine And.intro ?_ ?_|exact zz|assumption)));done));intro _ _;(repeat' (first|(with_reducible refine AllP.go ?_;first|exact og|((try simp only [OS]);repeat' (first|exact oj|refine And.intro ?_ ?_)))|(with_reducible first|exact PanicOk.body|exact rd.panic|refine PanicOk.then' ?_|refine PanicOk.block ?_|refine PanicOk.jump ?_)|(refine TL.done (by rfl) ?_)|(refine TL.auto tysOk rfl ?_ (by rfl) ?_ ?_)|(refine sm ?_ ?_)|(refine sp ?_ ?_)|(refine TL.one (by rfl) ?_)|(refine TL.two (by rfl) ?_ ?_)|(refine TL.three (by rfl) ?_ ?_ ?_)|(refine TL.four (by rfl) ?_ ?_ ?_ ?_))))|skip
   all_goals first | omega | skip
   all_goals exact aa
  ·have hnum:B=[]:=by rw [hB,if_neg (by omega)]
   rw [hnum,List.append_nil]
   exact aa
 obtain ⟨L3,hL3⟩:∃ L3,L3=L2++B:=⟨_,rfl⟩
 have hne3:L3≠[]:=fun e=>hne2 (List.append_eq_nil_iff.1 (hL3.symm.trans e)).1
 have hLF3:lineF n p=L3++n.attrs.flatMap atF:=by rw [hL3,hL2,hL1,hLF,hdA];simp
 have hw3:weight L3+weight (n.attrs.flatMap atF)≤4000:=by rw [← weight_app,← hLF3,hLF,weight_app,weight_app,weight_app];omega
 rw [← hL3]
 refine wa ?_
 refine TE.loopG (fun q:Nat=>q≤n.attrs.length) (fun q=>[(8,.o (.c (.int .i64 q))),(7,.o (.c (.string (sB (lineI (L3++(n.attrs.take q).flatMap atF))))))]) [] (fun _=>[]) (fun q=>n.attrs.length - q) 0 (by rfl) (Nat.zero_le _) ?_ ?_
 ·rw [show L3++(n.attrs.take 0).flatMap atF=L3 by rw [List.take_zero];exact List.append_nil _]
  exact ee
 have hal:=(At.checkE_srt ha).1
 intro q hq
 have hle:=line_le (L3++(n.attrs.take q).flatMap atF)
 have hwq:weight ((n.attrs.take q).flatMap atF)≤weight (n.attrs.flatMap atF):=by
  have e:n.attrs.flatMap atF=(n.attrs.take q).flatMap atF++(n.attrs.drop q).flatMap atF:=by rw [← List.flatMap_append,List.take_append_drop]
  rw [e,weight_app]
  exact Nat.le_add_right _ _
 rw [weight_app] at hle
 have hzq:(sB (lineI (L3++(n.attrs.take q).flatMap atF))).size≤4000:=by rw [sB_size];omega
 by_cases hlt:q<n.attrs.length
 ·have hxe:=at_le (getD_mem (l:=n.attrs) (d:=At.d0) hlt)
  have h288:At.sizeI n.attrs≤288:=by
   have h7:=(At.checkE_srt ha).2.2.2
   unfold At.fullB at h7
   simp at h7
   omega
  have e1:(bL (n.attrs.getD q At.d0).1).length=(n.attrs.getD q At.d0).1.size:=rfl
  have e2:(bL (n.attrs.getD q At.d0).2).length=(n.attrs.getD q At.d0).2.size:=rfl
  have hx1:=rQuote_c (bL (n.attrs.getD q At.d0).1) (by omega)
  have hx2:=rQuote_c (bL (n.attrs.getD q At.d0).2) (by omega)
  rw [sB_bL] at hx1 hx2
  have hy:∀ x:Bs,x.length≤288→(sB (quoteI x)).size≤1160:=fun x h=>by
   rw [sB_size]
   have h3:=word_le (qf x)
   have h4:(wordOf (qf x)).length=(quoteI x).length:=rfl
   have h5:(qf x).1.length=x.length:=rfl
   omega
  have hy1:=hy (bL (n.attrs.getD q At.d0).1) (by omega)
  have hy2:=hy (bL (n.attrs.getD q At.d0).2) (by omega)
  obtain ⟨L4,hL4⟩:∃ L4,L4=L3++(n.attrs.take q).flatMap atF:=⟨_,rfl⟩
  have hne4:L4≠[]:=fun e=>hne3 (List.append_eq_nil_iff.1 (hL4.symm.trans e)).1
  have hse:sB (lineI L4)++⟨#[32]⟩++sB (quoteI (bL (n.attrs.getD q At.d0).1))++⟨#[32]⟩++sB (quoteI (bL (n.attrs.getD q At.d0).2))=sB (lineI (L3++(n.attrs.take (q+1)).flatMap atF)):=by
   have e:L3++(n.attrs.take (q+1)).flatMap atF=(L4++[qf (bL (n.attrs.getD q At.d0).1)])++[qf (bL (n.attrs.getD q At.d0).2)]:=by
    rw [List.take_add_one,List.flatMap_append,List.getD_eq_getElem?_getD,List.getElem?_eq_getElem hlt,← List.append_assoc,← hL4,List.append_assoc L4]
    rfl
   rw [e,← sum_step (snoc_ne _ _),← sum_step hne4]
   rfl
  rw [← hL4] at hzq⊢
  have hsz:(sB (lineI L4)++⟨#[32]⟩).size≤4001:=by rw [ByteArray.size_append];omega
  have hsz2:(sB (lineI L4)++⟨#[32]⟩++sB (quoteI (bL (n.attrs.getD q At.d0).1))).size≤5200:=by rw [ByteArray.size_append];omega
  have hsz3:(sB (lineI L4)++⟨#[32]⟩++sB (quoteI (bL (n.attrs.getD q At.d0).1))++⟨#[32]⟩).size≤5201:=by rw [ByteArray.size_append];omega
  refine wa ?_
  (refine TE.drawK (fun i=>Nat.beq i 0) (by rfl) (by rfl) (by rfl) ?_)
  refine wf ?_
  all_goals first|((refine StepL.callW (hx1) rfl rfl rfl rfl rfl (by rfl) ?_ (by rfl) (by rfl) ?_;focus ((first|exact trivial|((with_reducible refine AllP.go ?_);dsimp only [AllP,appP];repeat' (first|refine And.intro ?_ ?_|exact zz|assumption)));done));intro _ _;(repeat' (first|(with_reducible refine AllP.go ?_;first|exact og|((try simp only [OS]);repeat' (first|exact oj|refine And.intro ?_ ?_)))|(with_reducible first|exact PanicOk.body|exact rd.panic|refine PanicOk.then' ?_|refine PanicOk.block ?_|refine PanicOk.jump ?_)|(refine TL.done (by rfl) ?_)|(refine TL.auto tysOk rfl ?_ (by rfl) ?_ ?_)|(refine sm ?_ ?_)|(refine sp ?_ ?_)|(refine TL.one (by rfl) ?_)|(refine TL.two (by rfl) ?_ ?_)|(refine TL.three (by rfl) ?_ ?_ ?_)|(refine TL.four (by rfl) ?_ ?_ ?_ ?_))))|((refine StepL.callW (hx2) rfl rfl rfl rfl rfl (by rfl) ?_ (by rfl) (by rfl) ?_;focus ((first|exact trivial|((with_reducible refine AllP.go ?_);dsimp only [AllP,appP];repeat' (first|refine And.intro ?_ ?_|exact zz|assumption)));done));intro _ _;(repeat' (first|(with_reducible refine AllP.go ?_;first|exact og|((try simp only [OS]);repeat' (first|exact oj|refine And.intro ?_ ?_)))|(with_reducible first|exact PanicOk.body|exact rd.panic|refine PanicOk.then' ?_|refine PanicOk.block ?_|refine PanicOk.jump ?_)|(refine TL.done (by rfl) ?_)|(refine TL.auto tysOk rfl ?_ (by rfl) ?_ ?_)|(refine sm ?_ ?_)|(refine sp ?_ ?_)|(refine TL.one (by rfl) ?_)|(refine TL.two (by rfl) ?_ ?_)|(refine TL.three (by rfl) ?_ ?_ ?_)|(refine TL.four (by rfl) ?_ ?_ ?_ ?_))))
  all_goals first|((refine StepL.callW (hx1) rfl rfl rfl rfl rfl (by rfl) ?_ (by rfl) (by rfl) ?_;focus ((first|exact trivial|((with_reducible refine AllP.go ?_);dsimp only [AllP,appP];repeat' (first|refine And.intro ?_ ?_|exact zz|assumption)));done));intro _ _;(repeat' (first|(with_reducible refine AllP.go ?_;first|exact og|((try simp only [OS]);repeat' (first|exact oj|refine And.intro ?_ ?_)))|(with_reducible first|exact PanicOk.body|exact rd.panic|refine PanicOk.then' ?_|refine PanicOk.block ?_|refine PanicOk.jump ?_)|(refine TL.done (by rfl) ?_)|(refine TL.auto tysOk rfl ?_ (by rfl) ?_ ?_)|(refine sm ?_ ?_)|(refine sp ?_ ?_)|(refine TL.one (by rfl) ?_)|(refine TL.two (by rfl) ?_ ?_)|(refine TL.three (by rfl) ?_ ?_ ?_)|(refine TL.four (by rfl) ?_ ?_ ?_ ?_))))|((refine StepL.callW (hx2) rfl rfl rfl rfl rfl (by rfl) ?_ (by rfl) (by rfl) ?_;focus ((first|exact trivial|((with_reducible refine AllP.go ?_);dsimp only [AllP,appP];repeat' (first|refine And.intro ?_ ?_|exact zz|assumption)));done));intro _ _;(repeat' (first|(with_reducible refine AllP.go ?_;first|exact og|((try simp only [OS]);repeat' (first|exact oj|refine And.intro ?_ ?_)))|(with_reducible first|exact PanicOk.body|exact rd.panic|refine PanicOk.then' ?_|refine PanicOk.block ?_|refine PanicOk.jump ?_)|(refine TL.done (by rfl) ?_)|(refine TL.auto tysOk rfl ?_ (by rfl) ?_ ?_)|(refine sm ?_ ?_)|(refine sp ?_ ?_)|(refine TL.one (by rfl) ?_)|(refine TL.two (by rfl) ?_ ?_)|(refine TL.three (by rfl) ?_ ?_ ?_)|(refine TL.four (by rfl) ?_ ?_ ?_ ?_))))|skip
  all_goals first | omega | skip
  all_goals refine wa ?_
  all_goals refine TE.again' (q+1) (by omega) (by omega) ?_
  all_goals rw [← hse]
  all_goals exact ee
 ·obtain rfl:q=n.attrs.length:=by omega
  refine wa ?_
  rw [List.take_length,← hLF3]
  exact po
theorem rlineO_c (n:Nd) (p:List ByteArray) (hf:fieldsE n=0) (ha:At.checkE n.attrs=0) (hc:0≤n.cls∧n.cls≤120) (hp:pcheckE p=0):Con Tryz.prog 69 [.g (ndA n),.o (.own 0)] [.own 0 9 1 (paC p)] 1 1 U (fun _=>.o (.c (.string (sB (lineI (lineF n p)))))) (fun _=>[.own 0 9 1 (paC p)]):=
 (rline_c n p hf ha hc hp).borrow 9 1 (paC p) ⟨.inl ⟨rfl,rfl⟩,.inr ⟨rfl,rfl⟩,trivial⟩ rfl (fun _=>rfl) rfl (fun _=>rfl)
theorem rtPrint_c (l:List Nd) (hl:l.length≤1000000) (hx:∀ x∈l,okR x):Con Tryz.prog 27 [.o (.ro 8 l.length (ndC l).cell)] [] 0 0 U (fun _=>.t [.inl (.c (.string (sB (printT l).1))),.inl (.c (.int .i64 (printT l).2))]) G0:=by
 refine con_of Tryz.func27 rfl (by kernel_rfl) Tryz.ntmps27 rfl (by first | exact Nat.zero_le _ | decide) (fun _=>⟨rfl,rfl⟩) fun w S ν=>?_
 refine wa ?_
 refine cw (rcheck_c l hl hx) ?_
 intro _ _
 by_cases h1:(checkT l).2≠0
 ·rw [show printT l=([],(checkT l).2) from if_pos h1]
  refine wb ?_
  exact po
 have hE:printT l=(textT l l.length,0):=if_neg h1
 have h1:=Decidable.not_not.1 h1
 have hT:Tok l:=h1
 refine wb ?_
 have hl120:=(tok_node hT).2.1
 (refine TE.only [7,6,0] (by rfl) ?_)
 refine TE.loopG (fun q:Nat=>q≤l.length) (fun q=>[(7,.o (.c (.int .i64 q))),(6,.o (.c (.string (sB (textT l q)))))]) [] (fun _=>[]) (fun q=>l.length - q) 0 (by rfl) (Nat.zero_le _) ?_ ?_
 ·exact ee
 intro q hq
 by_cases hlt:q<l.length
 ·have htx:=text_le hT q hq
  have hrow:=row_le hT hlt
  have hn0:=node_zero ((tok_node hT).2.2 q hlt)
  have hpa:=rpath_c l hl hT q hlt
  have hli:=rlineO_c (l.getD q n0) (pathI l q) hn0.2.1 hn0.2.2.1 (cls_le hT hlt) (path_ok hT q hlt)
  have hz1:(sB (textT l q)).size≤900000:=by rw [sB_size];omega
  have hz2:(sB (lineI (lineF (l.getD q n0) (pathI l q)))).size≤5000:=by
   rw [sB_size]
   unfold rowT at hrow
   rw [List.length_append] at hrow
   omega
  have hz3:(sB (textT l q)++sB (lineI (lineF (l.getD q n0) (pathI l q)))).size≤905000:=by rw [ByteArray.size_append];omega
  have hs1:(⟨#[10]⟩:ByteArray).size=1:=rfl
  have hse:sB (textT l q)++sB (lineI (lineF (l.getD q n0) (pathI l q)))++⟨#[10]⟩=sB (textT l (q+1)):=by
   rw [textT_succ,show (⟨#[10]⟩:ByteArray)=sB [10] from rfl,sB_app,sB_app,List.append_assoc]
   rfl
  refine wa ?_
  (refine TE.drawK (fun _=>false) (by rfl) (by rfl) (by rfl) ?_)
  refine wf ?_
  refine StepL.callW (hpa) rfl rfl rfl rfl rfl (by rfl) (by (first|exact trivial|((with_reducible refine AllP.go ?_);dsimp only [AllP,appP];repeat' (first|refine And.intro ?_ ?_|exact zz|assumption)))) (by rfl) (by rfl) ?_
  intro _ _
  refine wf ?_
  refine StepL.callW (hli) rfl rfl rfl rfl rfl (by rfl) (by (first|exact trivial|((with_reducible refine AllP.go ?_);dsimp only [AllP,appP];repeat' (first|refine And.intro ?_ ?_|exact zz|assumption)))) (by rfl) (by rfl) ?_
  intro _ _
  refine wf ?_
  all_goals first | omega | skip
  refine wa ?_
  refine TE.again' (q+1) hlt (by omega) ?_
  rw [← hse]
  exact ee
 ·obtain rfl:q=l.length:=by omega
  refine wa ?_
  rw [hE]
  exact po
end Go.Proofs.YtalmoocpebhoiaaGreatDoor.Am
namespace Go.Proofs.YtalmoocpebhoiaaGreatDoor.Am
open Go.RowKit Lw Wo
theorem rJoin_c (l:List Fld):Con Tryz.prog 30 [.o (.ro 2 l.length (fdC l).cell)] [] 0 0 U (fun _=>.t [.inl (.c (.string (sB (joinI l).1))),.inl (.c (.int .i64 (joinI l).2))]) G0:=by
 refine con_of Tryz.func30 rfl (by kernel_rfl) Tryz.ntmps30 rfl (by first | exact Nat.zero_le _ | decide) (fun _=>⟨rfl,rfl⟩) fun w S ν=>?_
 (repeat' (first|(with_reducible refine AllP.go ?_;first|exact og|((try simp only [OS]);repeat' (first|exact oj|refine And.intro ?_ ?_)))|(refine rg ?_ ?_)|(with_reducible first|refine stp ?_|refine tD rfl ?_)|refine ct ?_|refine cf ?_|((first|refine gs ?_ ?_|refine gl ?_ ?_|refine gc ?_ ?_)<;>intro h<;>(try simp only [NS] at h)<;>(try exact xf)<;>(try refine rn ?_ ?_))))
 ·rw [show joinI l=([],3) from if_pos (.inl (by omega))]
  exact po
 have h64:l.length≤64:=by omega
 refine TE.loopG (fun q:Nat=>q≤l.length∧∀ k,k<q→(l.getD k ([],false)).1.length≤2000) (fun q=>[(4,.o (.c (.int .i64 q)))]) [] (fun _=>[]) (fun q=>l.length - q) 0 (by rfl) ⟨Nat.zero_le _,fun k hk=>absurd hk (Nat.not_lt_zero _)⟩ ?_ ?_
 ·exact ee
 rintro q ⟨g1,g2⟩
 have hsz:=sB_size (l.getD q ([],false)).1
 (repeat' (first|(with_reducible refine AllP.go ?_;first|exact og|((try simp only [OS]);repeat' (first|exact oj|refine And.intro ?_ ?_)))|(refine rg ?_ ?_)|(with_reducible first|refine stp ?_|refine tD rfl ?_)|refine ct ?_|refine cf ?_|((first|refine gs ?_ ?_|refine gl ?_ ?_|refine gc ?_ ?_)<;>intro h<;>(try simp only [NS] at h)<;>(try exact xf)<;>(try refine rn ?_ ?_))))
 ·rw [show joinI l=([],3) from if_pos (.inr (long_any (q:=q) (by omega) (by omega)))]
  exact po
 ·refine TE.again' (q+1) ⟨by omega,fun k hk=>?_⟩ (by omega) ?_
  ·rcases Nat.lt_or_ge k q with h3 | h3
   ·exact g2 k h3
   ·obtain rfl:k=q:=by omega
    omega
  ·exact ee
 obtain rfl:q=l.length:=by omega
 clear hsz
 have hsh:=short_all g2
 have hshort:∀ f∈l,longF f=false:=fun f hf=>by rw [List.any_eq_false] at hsh;simpa using hsh f hf
 (refine TE.only [6,5,3,2,0] (by rfl) ?_)
 refine TE.loopG (fun q:Nat=>q≤l.length∧∀ k,k<q→goodF (l.getD k ([],false))=true) (fun q=>[(6,.o (.c (.int .i64 q))),(5,.o (.c (.string (sB (lineI (l.take q))))))]) [] (fun _=>[]) (fun q=>l.length - q) 0 (by rfl) ⟨Nat.zero_le _,fun k hk=>absurd hk (Nat.not_lt_zero _)⟩ ?_ ?_
 ·exact ee
 rintro q ⟨k1,k2⟩
 have hln:=line_len (l:=l.take q) fun f hf=>hshort f (List.mem_of_mem_take hf)
 rw [List.length_take] at hln
 have hzl:=sB_size (lineI (l.take q))
 by_cases hq:q<l.length
 ·have h2000:=g2 q hq
  have htk:=takeF hq
  have hsn:=line_snoc (l.take q) (l.getD q ([],false))
  rw [← htk] at hsn
  have hq0:q=0→lineI (l.take (q+1))=wordOf (l.getD q ([],false)):=fun e=>by
   rw [hsn,if_pos (by rw [e];rfl)]
  have hq1:0<q→lineI (l.take (q+1))=lineI (l.take q)++[32]++wordOf (l.getD q ([],false)):=fun e=>by
   rw [hsn,if_neg (fun e2=>by have:=congrArg List.length e2;rw [List.length_take,List.length_nil] at this;omega)]
   simp
  have hgood:goodF (l.getD q ([],false))=true→∀ k,k<q+1→goodF (l.getD k ([],false))=true:=fun h k hk=>by
   rcases Nat.lt_or_ge k q with h3 | h3
   ·exact k2 k h3
   ·obtain rfl:k=q:=by omega
    exact h
  have hs0:(sB (lineI (l.take q))++ByteArray.mk #[32]).size=(lineI (l.take q)).length+1:=by rw [ByteArray.size_append,hzl];rfl
  have hm1:(ByteArray.mk #[32]).size=1:=rfl
  have hwl:=word_len (f:=l.getD q ([],false)) (by unfold longF;exact decide_eq_false (by omega))
  cases hb:(l.getD q ([],false)).2
  ·have hw:=wordb hb
   have hszw:=sB_size (l.getD q ([],false)).1
   have hrb:=rbare_c (l.getD q ([],false)).1 (by omega)
   cases hbare:bareI (l.getD q ([],false)).1
   ·rw [hbare] at hrb
    have hbad:=bad_all hq (by unfold goodF;rw [hb,hbare];rfl)
    (repeat (with_reducible first|refine stp ?_|refine tD rfl ?_))
    ((refine rg ?_ ?_);try (with_reducible refine AllP.go ?_;first|exact og|((try simp only [OS]);repeat' (first|exact oj|refine And.intro ?_ ?_))))
    (repeat (with_reducible first|refine stp ?_|refine tD rfl ?_))
    (refine TE.cond_split (by rfl) ?_ ?_<;>intro h<;>(try simp only [NS] at h)<;>(try (exfalso;first | omega | exact h trivial | exact h | exact h rfl | contradiction)))
    (repeat (with_reducible first|refine stp ?_|refine tD rfl ?_))
    refine TE.region ?_
    (refine TE.step rfl rfl rfl (fun _ h=>nomatch h) (m_pure tysOk rfl ?_) ?_;rotate_left;rintro _ rfl;rotate_right;(with_reducible refine AllP.go ?_;first|exact og|((try simp only [OS]);repeat' (first|exact oj|refine And.intro ?_ ?_))))
    (refine TE.step rfl rfl rfl (fun _ h=>nomatch h) (m_pure tysOk rfl ?_) ?_;rotate_left;rintro _ rfl;rotate_right;(with_reducible refine AllP.go ?_;first|exact og|((try simp only [OS]);repeat' (first|exact oj|refine And.intro ?_ ?_))))
    (refine TE.step rfl rfl rfl (fun _ h=>nomatch h) (m_pure tysOk rfl ?_) ?_;rotate_left;rintro _ rfl;rotate_right;(with_reducible refine AllP.go ?_;first|exact og|((try simp only [OS]);repeat' (first|exact oj|refine And.intro ?_ ?_))))
    (refine TE.step rfl rfl rfl (fun _ h=>nomatch h) (m_pure tysOk rfl ?_) ?_;rotate_left;rintro _ rfl;rotate_right;(with_reducible refine AllP.go ?_;first|exact og|((try simp only [OS]);repeat' (first|exact oj|refine And.intro ?_ ?_))))
    (refine TE.step rfl rfl rfl (fun _ h=>nomatch h) (m_pure tysOk rfl ?_) ?_;rotate_left;rintro _ rfl;rotate_right;(with_reducible refine AllP.go ?_;first|exact og|((try simp only [OS]);repeat' (first|exact oj|refine And.intro ?_ ?_))))
    rw [show (l.getD ((q:Nat):Int).toNat ([],false)).2=false from hb]
    (refine TE.only [33,6,5,0] (by rfl) ?_)
    refine wb ?_
    refine cw (hrb) ?_
    intro _ _
    refine wb ?_
    rw [show joinI l=([],6) from by unfold joinI;rw [if_neg (by rw [hsh];simp;omega),if_pos hbad]]
    exact po
   ·rw [hbare] at hrb
    have hgf:goodF (l.getD q ([],false))=true:=by unfold goodF;rw [hb,hbare];rfl
    rcases Nat.eq_zero_or_pos q with hz0 | hz0
    ·have hx:=hq0 hz0
     have hle:lineI (l.take q)=[]:=by rw [hz0];rfl
     (repeat (with_reducible first|refine stp ?_|refine tD rfl ?_))
     ((refine rg ?_ ?_);try (with_reducible refine AllP.go ?_;first|exact og|((try simp only [OS]);repeat' (first|exact oj|refine And.intro ?_ ?_))))
     (repeat (with_reducible first|refine stp ?_|refine tD rfl ?_))
     (refine TE.cond_split (by rfl) ?_ ?_<;>intro h<;>(try simp only [NS] at h)<;>(try (exfalso;first | omega | exact h trivial | exact h | exact h rfl | contradiction)))
     (repeat (with_reducible first|refine stp ?_|refine tD rfl ?_))
     refine TE.region ?_
     (refine TE.step rfl rfl rfl (fun _ h=>nomatch h) (m_pure tysOk rfl ?_) ?_;rotate_left;rintro _ rfl;rotate_right;(with_reducible refine AllP.go ?_;first|exact og|((try simp only [OS]);repeat' (first|exact oj|refine And.intro ?_ ?_))))
     (refine TE.step rfl rfl rfl (fun _ h=>nomatch h) (m_pure tysOk rfl ?_) ?_;rotate_left;rintro _ rfl;rotate_right;(with_reducible refine AllP.go ?_;first|exact og|((try simp only [OS]);repeat' (first|exact oj|refine And.intro ?_ ?_))))
     (refine TE.step rfl rfl rfl (fun _ h=>nomatch h) (m_pure tysOk rfl ?_) ?_;rotate_left;rintro _ rfl;rotate_right;(with_reducible refine AllP.go ?_;first|exact og|((try simp only [OS]);repeat' (first|exact oj|refine And.intro ?_ ?_))))
     (refine TE.step rfl rfl rfl (fun _ h=>nomatch h) (m_pure tysOk rfl ?_) ?_;rotate_left;rintro _ rfl;rotate_right;(with_reducible refine AllP.go ?_;first|exact og|((try simp only [OS]);repeat' (first|exact oj|refine And.intro ?_ ?_))))
     (refine TE.step rfl rfl rfl (fun _ h=>nomatch h) (m_pure tysOk rfl ?_) ?_;rotate_left;rintro _ rfl;rotate_right;(with_reducible refine AllP.go ?_;first|exact og|((try simp only [OS]);repeat' (first|exact oj|refine And.intro ?_ ?_))))
     rw [show (l.getD ((q:Nat):Int).toNat ([],false)).2=false from hb]
     (refine TE.only [33,6,5,0] (by rfl) ?_)
     refine wb ?_
     refine cw (hrb) ?_
     intro _ _
     refine wb ?_
     rw [show (l.getD ((q:Nat):Int).toNat ([],false)).2=false from hb]
     refine wa ?_
     refine TE.again' (q+1) ⟨by omega,hgood hgf⟩ (by omega) ?_
     (refine Ent.of rfl rfl (by rfl) ?_;(try (first|exact trivial|((with_reducible refine AllP.go ?_);dsimp only [AllP,appP];repeat' (first|refine And.intro ?_ ?_|exact zz)))))
     rw [hx,hle,hw]
     all_goals rfl
    ·have hx:=hq1 hz0
     (repeat (with_reducible first|refine stp ?_|refine tD rfl ?_))
     ((refine rg ?_ ?_);try (with_reducible refine AllP.go ?_;first|exact og|((try simp only [OS]);repeat' (first|exact oj|refine And.intro ?_ ?_))))
     (repeat (with_reducible first|refine stp ?_|refine tD rfl ?_))
     (refine TE.cond_split (by rfl) ?_ ?_<;>intro h<;>(try simp only [NS] at h)<;>(try (exfalso;first | omega | exact h trivial | exact h | exact h rfl | contradiction)))
     (repeat (with_reducible first|refine stp ?_|refine tD rfl ?_))
     refine TE.region ?_
     (refine TE.step rfl rfl rfl (fun _ h=>nomatch h) (m_pure tysOk rfl ?_) ?_;rotate_left;rintro _ rfl;rotate_right;(with_reducible refine AllP.go ?_;first|exact og|((try simp only [OS]);repeat' (first|exact oj|refine And.intro ?_ ?_))))
     (refine TE.step rfl rfl rfl (fun _ h=>nomatch h) (m_pure tysOk rfl ?_) ?_;rotate_left;rintro _ rfl;rotate_right;(with_reducible refine AllP.go ?_;first|exact og|((try simp only [OS]);repeat' (first|exact oj|refine And.intro ?_ ?_))))
     (refine TE.step rfl rfl rfl (fun _ h=>nomatch h) (m_pure tysOk rfl ?_) ?_;rotate_left;rintro _ rfl;rotate_right;(with_reducible refine AllP.go ?_;first|exact og|((try simp only [OS]);repeat' (first|exact oj|refine And.intro ?_ ?_))))
     (refine TE.step rfl rfl rfl (fun _ h=>nomatch h) (m_pure tysOk rfl ?_) ?_;rotate_left;rintro _ rfl;rotate_right;(with_reducible refine AllP.go ?_;first|exact og|((try simp only [OS]);repeat' (first|exact oj|refine And.intro ?_ ?_))))
     (refine TE.step rfl rfl rfl (fun _ h=>nomatch h) (m_pure tysOk rfl ?_) ?_;rotate_left;rintro _ rfl;rotate_right;(with_reducible refine AllP.go ?_;first|exact og|((try simp only [OS]);repeat' (first|exact oj|refine And.intro ?_ ?_))))
     rw [show (l.getD ((q:Nat):Int).toNat ([],false)).2=false from hb]
     (refine TE.only [33,6,5,0] (by rfl) ?_)
     refine wb ?_
     refine cw (hrb) ?_
     intro _ _
     refine wb ?_
     rw [show (l.getD ((q:Nat):Int).toNat ([],false)).2=false from hb]
     refine wa ?_
     refine TE.again' (q+1) ⟨by omega,hgood hgf⟩ (by omega) ?_
     (refine Ent.of rfl rfl (by rfl) ?_;(try (first|exact trivial|((with_reducible refine AllP.go ?_);dsimp only [AllP,appP];repeat' (first|refine And.intro ?_ ?_|exact zz)))))
     rw [hx,hw,← sB_app,← sB_app]
     all_goals rfl
  ·have hw:=wordq hb
   have hgf:goodF (l.getD q ([],false))=true:=by unfold goodF;rw [hb];rfl
   have hrq:=rQuote_c (l.getD q ([],false)).1 (by omega)
   have hszw:=sB_size (quoteI (l.getD q ([],false)).1)
   rw [hw] at hwl
   rcases Nat.eq_zero_or_pos q with hz0 | hz0
   ·have hx:=hq0 hz0
    have hle:lineI (l.take q)=[]:=by rw [hz0];rfl
    (repeat (with_reducible first|refine stp ?_|refine tD rfl ?_))
    ((refine rg ?_ ?_);try (with_reducible refine AllP.go ?_;first|exact og|((try simp only [OS]);repeat' (first|exact oj|refine And.intro ?_ ?_))))
    (repeat (with_reducible first|refine stp ?_|refine tD rfl ?_))
    (refine TE.cond_split (by rfl) ?_ ?_<;>intro h<;>(try simp only [NS] at h)<;>(try (exfalso;first | omega | exact h trivial | exact h | exact h rfl | contradiction)))
    (repeat (with_reducible first|refine stp ?_|refine tD rfl ?_))
    refine TE.region ?_
    (refine TE.step rfl rfl rfl (fun _ h=>nomatch h) (m_pure tysOk rfl ?_) ?_;rotate_left;rintro _ rfl;rotate_right;(with_reducible refine AllP.go ?_;first|exact og|((try simp only [OS]);repeat' (first|exact oj|refine And.intro ?_ ?_))))
    (refine TE.step rfl rfl rfl (fun _ h=>nomatch h) (m_pure tysOk rfl ?_) ?_;rotate_left;rintro _ rfl;rotate_right;(with_reducible refine AllP.go ?_;first|exact og|((try simp only [OS]);repeat' (first|exact oj|refine And.intro ?_ ?_))))
    (refine TE.step rfl rfl rfl (fun _ h=>nomatch h) (m_pure tysOk rfl ?_) ?_;rotate_left;rintro _ rfl;rotate_right;(with_reducible refine AllP.go ?_;first|exact og|((try simp only [OS]);repeat' (first|exact oj|refine And.intro ?_ ?_))))
    (refine TE.step rfl rfl rfl (fun _ h=>nomatch h) (m_pure tysOk rfl ?_) ?_;rotate_left;rintro _ rfl;rotate_right;(with_reducible refine AllP.go ?_;first|exact og|((try simp only [OS]);repeat' (first|exact oj|refine And.intro ?_ ?_))))
    (refine TE.step rfl rfl rfl (fun _ h=>nomatch h) (m_pure tysOk rfl ?_) ?_;rotate_left;rintro _ rfl;rotate_right;(with_reducible refine AllP.go ?_;first|exact og|((try simp only [OS]);repeat' (first|exact oj|refine And.intro ?_ ?_))))
    rw [show (l.getD ((q:Nat):Int).toNat ([],false)).2=true from hb]
    (refine TE.only [33,6,5,0] (by rfl) ?_)
    refine wb ?_
    rw [show (l.getD ((q:Nat):Int).toNat ([],false)).2=true from hb]
    refine wa ?_
    refine cw (hrq) ?_
    intro _ _
    refine wb ?_
    refine TE.again' (q+1) ⟨by omega,hgood hgf⟩ (by omega) ?_
    (refine Ent.of rfl rfl (by rfl) ?_;(try (first|exact trivial|((with_reducible refine AllP.go ?_);dsimp only [AllP,appP];repeat' (first|refine And.intro ?_ ?_|exact zz)))))
    rw [hx,hle,hw]
    all_goals rfl
   ·have hx:=hq1 hz0
    (repeat (with_reducible first|refine stp ?_|refine tD rfl ?_))
    ((refine rg ?_ ?_);try (with_reducible refine AllP.go ?_;first|exact og|((try simp only [OS]);repeat' (first|exact oj|refine And.intro ?_ ?_))))
    (repeat (with_reducible first|refine stp ?_|refine tD rfl ?_))
    (refine TE.cond_split (by rfl) ?_ ?_<;>intro h<;>(try simp only [NS] at h)<;>(try (exfalso;first | omega | exact h trivial | exact h | exact h rfl | contradiction)))
    (repeat (with_reducible first|refine stp ?_|refine tD rfl ?_))
    refine TE.region ?_
    (refine TE.step rfl rfl rfl (fun _ h=>nomatch h) (m_pure tysOk rfl ?_) ?_;rotate_left;rintro _ rfl;rotate_right;(with_reducible refine AllP.go ?_;first|exact og|((try simp only [OS]);repeat' (first|exact oj|refine And.intro ?_ ?_))))
    (refine TE.step rfl rfl rfl (fun _ h=>nomatch h) (m_pure tysOk rfl ?_) ?_;rotate_left;rintro _ rfl;rotate_right;(with_reducible refine AllP.go ?_;first|exact og|((try simp only [OS]);repeat' (first|exact oj|refine And.intro ?_ ?_))))
    (refine TE.step rfl rfl rfl (fun _ h=>nomatch h) (m_pure tysOk rfl ?_) ?_;rotate_left;rintro _ rfl;rotate_right;(with_reducible refine AllP.go ?_;first|exact og|((try simp only [OS]);repeat' (first|exact oj|refine And.intro ?_ ?_))))
    (refine TE.step rfl rfl rfl (fun _ h=>nomatch h) (m_pure tysOk rfl ?_) ?_;rotate_left;rintro _ rfl;rotate_right;(with_reducible refine AllP.go ?_;first|exact og|((try simp only [OS]);repeat' (first|exact oj|refine And.intro ?_ ?_))))
    (refine TE.step rfl rfl rfl (fun _ h=>nomatch h) (m_pure tysOk rfl ?_) ?_;rotate_left;rintro _ rfl;rotate_right;(with_reducible refine AllP.go ?_;first|exact og|((try simp only [OS]);repeat' (first|exact oj|refine And.intro ?_ ?_))))
    rw [show (l.getD ((q:Nat):Int).toNat ([],false)).2=true from hb]
    (refine TE.only [33,6,5,0] (by rfl) ?_)
    refine wb ?_
    rw [show (l.getD ((q:Nat):Int).toNat ([],false)).2=true from hb]
    refine wa ?_
    refine cw (hrq) ?_
    intro _ _
    refine wb ?_
    refine TE.again' (q+1) ⟨by omega,hgood hgf⟩ (by omega) ?_
    (refine Ent.of rfl rfl (by rfl) ?_;(try (first|exact trivial|((with_reducible refine AllP.go ?_);dsimp only [AllP,appP];repeat' (first|refine And.intro ?_ ?_|exact zz)))))
    rw [hx,hw,← sB_app,← sB_app]
    all_goals rfl
 ·obtain rfl:q=l.length:=by omega
  rw [List.take_length] at hln hzl⊢
  have hg:=good_all k2
  (repeat' (first|(with_reducible refine AllP.go ?_;first|exact og|((try simp only [OS]);repeat' (first|exact oj|refine And.intro ?_ ?_)))|(refine rg ?_ ?_)|(with_reducible first|refine stp ?_|refine tD rfl ?_)|refine ct ?_|refine cf ?_|((first|refine gs ?_ ?_|refine gl ?_ ?_|refine gc ?_ ?_)<;>intro h<;>(try simp only [NS] at h)<;>(try exact xf)<;>(try refine rn ?_ ?_))))
  ·rw [show joinI l=([],3) from by unfold joinI;rw [if_neg (by rw [hsh];simp;omega),if_neg (by rw [hg];decide),if_pos (by omega)]]
   exact po
  ·rw [show joinI l=(lineI l,0) from by unfold joinI;rw [if_neg (by rw [hsh];simp;omega),if_neg (by rw [hg];decide),if_neg (by omega)]]
   exact po
end Go.Proofs.YtalmoocpebhoiaaGreatDoor.Am
