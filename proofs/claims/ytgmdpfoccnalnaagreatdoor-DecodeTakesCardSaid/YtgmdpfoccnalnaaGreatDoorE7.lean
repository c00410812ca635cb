/- Decode: pairs. -/
import Derived.Test.YtgmdpfoccnalnaaGreatDoorE6
import Derived.Test.YtgmdpfoccnalnaaGreatDoorE2
import Derived.Test.YtgmdpfoccnalnaaGreatDoorE5
set_option linter.unusedSimpArgs false
set_option linter.unusedVariables false
set_option maxRecDepth 100000
namespace Go.Proofs
open Go.Sy Go.Lib

theorem rows_snoc {it:List Val} {w:Val} {i:Nat} (h:i<it.length+1):appRow it.length (Val.rows it) (chunkRow 5 (Val.c w)) i=Val.rows (it++[w]) i:=by
 rw [Val.rows_eq _ _ (by simpa using h)]
 unfold appRow
 by_cases hi:i<it.length
 ·rw [if_pos hi,Val.rows_eq _ _ hi,List.getD_eq_getElem?_getD,List.getD_eq_getElem?_getD,List.getElem?_append_left hi]
 ·rw [if_neg hi]
  obtain rfl:i=it.length:=by omega
  rw [Nat.sub_self,List.getD_eq_getElem?_getD,List.getElem?_append_right (Nat.le_refl _),Nat.sub_self];rfl
theorem ints_snoc {tg:List Int} {x:Int} {i:Nat} (h:i<tg.length+1):appRow tg.length (fun i=>INTc (tg.getD i default)) (chunkRow 1 [I64 x]) i=INTc ((tg++[x]).getD i default):=by
 unfold appRow
 by_cases hi:i<tg.length
 ·rw [if_pos hi]
  show INTc (tg.getD i default)=_
  rw [List.getD_eq_getElem?_getD,List.getD_eq_getElem?_getD,List.getElem?_append_left hi]
 ·rw [if_neg hi]
  obtain rfl:i=tg.length:=by omega
  rw [Nat.sub_self,List.getD_eq_getElem?_getD,List.getElem?_append_right (Nat.le_refl _),Nat.sub_self];rfl

theorem chunk1 {e:Nat} {cs:List AV} (h:cs.length=e) (i:Nat) (hi:i<1):(chunkRow e cs i).length=e:=by
 obtain rfl:i=0:=by omega
 simp [chunkRow,h]

theorem app_getD {α:Type} [Inhabited α] (cells:α→List AV) (l m:List α) {j:Nat} (h:j<l.length+m.length):appRow l.length (fun i=>cells (l.getD i default)) (fun i=>cells (m.getD i default)) j=cells ((l++m).getD j default):=by
 unfold appRow
 by_cases hj:j<l.length
 ·rw [if_pos hj]
  show cells (l.getD j default)=_
  rw [List.getD_eq_getElem?_getD,List.getD_eq_getElem?_getD,List.getElem?_append_left hj]
 ·rw [if_neg hj]
  show cells (m.getD (j-l.length) default)=_
  rw [List.getD_eq_getElem?_getD,List.getD_eq_getElem?_getD,List.getElem?_append_right (by omega)]
noncomputable def keyAfter (acc:List Val) (k:Val):Option Bool :=
 if acc.length=0 then some true else chk (2≤acc.length) (Option.bind (CmpV_F (acc.getD (acc.length-2) default) k) fun c=>some (decide (c<0)))
noncomputable def pairsGo (rec:DRec) (t:Ty) (deep:Int):Nat→List UInt8→List Val→Int→Option (Except Int (Val×Int))
 | 0,_,_,_=>none
 | n+1,s,acc,made=>if s=[] then some (.ok (⟨8,0,[],[],acc⟩,made)) else
  chk (1<t.of.length∧acc.length<1000000) (Option.bind (rec (t.of.getD 0 default) s (IntKind.i64.wrap (deep+1)) made) fun r=>match r with
   | .error e=>some (.error e)
   | .ok k=>Option.bind (keyAfter acc k.1) fun ok=>if ok=false then some (.error 9) else
    Option.bind (rec (t.of.getD 1 default) k.2.1 (IntKind.i64.wrap (deep+1)) k.2.2) fun r2=>match r2 with
     | .error e=>some (.error e)
     | .ok i=>pairsGo rec t deep n i.2.1 (acc++[k.1,i.1]) i.2.2)
noncomputable def pairsF (rec:DRec) (t:Ty) (s:List UInt8) (deep made:Int):Option (Except Int (Val×Int)):=pairsGo rec t deep (s.length+1) s [] made
theorem pairs_x (b:Nat) (l:List Dcl) (hP:Prep l) (hW:WellL l) (tk:Nat) (most:Int) (rec:DRec) (hrec:DRecOK b l tk most rec) (made:Int) (t:Ty) (s:List UInt8) (deep:Int) (r:Except Int (Val×Int)) (h:pairsF rec t s deep made=some r) :
  FnX 118 [PT tk 0,.agg (Ty.c t),.s s,I64 deep] b l tk most made (r.map (fun q=>(AV.agg (Val.c q.1),q.2))):=by
 unfold pairsF at h
 refine FnT.intro Tryz.tabOK Tryz.wide_ Tryz.func118 rfl (by decide) rfl (fun X hX=>?_)
 iterate 2 refine sc rfl ?_
 refine so rfl ?_
 refine O_le _ (Le.freezebox 5 rfl rfl rfl) ?_
 repeat (first|refine sc rfl ?_|refine so rfl ?_)
 refine C_le _ (Le.cellNil 9 4 91 26 5 (fun i=>Val.c (([]:List Val).getD i default)) rfl rfl rfl rfl) ?_
 refine C_loop (fun q:Nat×List UInt8×List Val×Int=>⟨[(0,PT tk 0),(2,.s q.2.1),(3,I64 deep),(5,.cp (Ty.c t)),(8,.bp 8 0),(9,.bp 9 0)],[.box 9 26 [I64 8,I64 0,.s [],NIL,.own 91],VEC 91 26 5 Val.c q.2.2.1,.box 8 26 [I64 0,I64 0,.s [],NIL,NIL],.abs (vmA b l),.abs (tkrC tk b most q.2.2.2)]⟩)
  (fun q=>pairsGo rec t deep q.1 q.2.1 q.2.2.1 q.2.2.2=some r) (fun q=>q.1) (s.length+1,s,[],made) h ?_ ?_
 ·exact Le.sub [9,91,8,1000000,1000000] ⟨rfl,rfl,rfl,rfl,rfl,rfl,trivial⟩ rfl
 rintro ⟨n,s,acc,made⟩ hF
 simp only [] at hF
 cases n with
 | zero=>cases hF
 | succ n =>
 simp only [pairsGo] at hF
 show SymC _ _ _ ⟨[(0,PT tk 0),(2,.s s),(3,I64 deep),(5,.cp (Ty.c t)),(8,.bp 8 0),(9,.bp 9 0)],[.box 9 26 [I64 8,I64 0,.s [],NIL,.own 91],VEC 91 26 5 Val.c acc,.box 8 26 [I64 0,I64 0,.s [],NIL,NIL],.abs (vmA b l),.abs (tkrC tk b most made)]⟩ _
 repeat (first|refine sc rfl ?_|refine so rfl ?_)
 refine C_if rfl (fun m1=>?_) (fun m1=>?_)<;>simp only [pL] at m1
 ·rw [if_neg m1] at hF
  obtain ⟨⟨hof,hac⟩,hF⟩:=gT hF
  obtain ⟨q,hq,hF⟩:=bT hF
  iterate 4 refine sc rfl ?_
  iterate 2 refine so rfl ?_
  refine so rfl ?_
  repeat refine sc rfl ?_
  iterate 3 refine so rfl ?_
  refine O_le _ (Le.one 19 (SL 3 Ty.c t.of) rfl (.row (Ty.rows_eq _))) ?_
  refine so rfl (And.intro ⟨by omega,by omega⟩ ?_)
  rw [show Int.toNat 0=0 from rfl]
  repeat refine so rfl ?_
  cases q with
  | error e =>
   obtain rfl:=osi hF
   exact O_errX [5,5] (hrec _ _ _ _ _ hq) hX (by rfl) (by rfl) (by rfl) (by rfl) (fun m'=>⟨_,_,rfl,rfl,rfl⟩)
  | ok k =>
   simp only [] at hF
   obtain ⟨ok,hok,hF⟩:=bT hF
   refine O_cA [5,5] (FnX.ok (hrec _ _ _ _ _ hq)) ?_
   rintro r' cs' ⟨rfl,rfl⟩
   repeat (first|refine sc rfl ?_|refine so rfl ?_)
   refine C_join ⟨[(0,PT tk 0),(2,.s k.2.1),(3,I64 deep),(5,.cp (Ty.c t)),(8,.bp 8 0),(9,.bp 9 0),(10,.bp 10 0),(11,.bp 11 0),(43,B (!ok))],[.abs (vmA b l),.abs (tkrC tk b most k.2.2),.box 11 26 [I64 0,I64 0,.s [],NIL,NIL],.box 10 26 (Val.c k.1),.box 9 26 [I64 8,I64 0,.s [],NIL,.own 91],VEC 91 26 5 Val.c acc,.box 8 26 [I64 0,I64 0,.s [],NIL,NIL]]⟩ ?_ (fun s hs=>C_le _ hs ?_)
   ·refine C_drawD rfl (by kernel_rfl) ?_
    iterate 3 refine sd rfl ?_
    refine D_case 2 rfl (fun hb=>?_) (fun hb=>?_)<;>simp only [pL] at hb
    ·have hne:¬ acc.length=0:=by omega
     unfold keyAfter at hok
     rw [if_neg hne] at hok
     obtain ⟨h2,hok⟩:=gT hok
     obtain ⟨c,hc,hok⟩:=bT hok
     obtain rfl:=osi hok
     iterate 3 refine sd rfl ?_
     refine sd rfl ?_
     rw [w64 (x:=(acc.length:Int)-2) (by omega) (by omega),show ((acc.length:Int)-2)=((acc.length-2:Nat):Int) by omega]
     refine sd rfl (And.intro ⟨by omega,by omega⟩ ?_)
     rw [Int.toNat_natCast]
     refine sd rfl (And.intro (by omega) ?_)
     refine sd rfl ?_
     refine D_call (CmpV_w _ _ _ hc) rfl rfl rfl rfl ?_
     repeat refine sd rfl ?_
     repeat refine sc rfl ?_
     exact Le.sub [1000000,1000000,11,10,9,91,8] ⟨rfl,rfl,rfl,rfl,rfl,rfl,rfl,rfl,congrArg (fun x=>some (B x)) (by rw [Bool.eq_iff_iff];simp),trivial⟩ rfl
    ·have hz:acc.length=0:=by omega
     unfold keyAfter at hok
     rw [if_pos hz] at hok
     obtain rfl:=osi hok
     repeat refine sd rfl ?_
     repeat refine sc rfl ?_
     exact Le.sub [1000000,1000000,11,10,9,91,8] ⟨rfl,rfl,rfl,rfl,rfl,rfl,rfl,rfl,rfl,trivial⟩ rfl
   refine C_if rfl (fun c2=>?_) (fun c2=>?_)<;>simp only [pL] at c2
   ·rw [if_pos c2] at hF
    obtain rfl:=osi hF
    repeat refine sc rfl ?_
    exact O_must [0,0] (by decide) hX (by rfl) (by rfl) (by rfl) ⟨_,_,rfl,rfl,rfl⟩
   rw [if_neg (by simp [c2])] at hF
   obtain ⟨q,hq,hF⟩:=bT hF
   repeat refine sc rfl ?_
   iterate 3 refine so rfl ?_
   refine O_le _ (Le.one 48 (SL 3 Ty.c t.of) rfl (.row (Ty.rows_eq _))) ?_
   refine so rfl (And.intro ⟨by omega,by omega⟩ ?_)
   rw [show Int.toNat 1=1 from rfl]
   repeat refine so rfl ?_
   cases q with
   | error e =>
    obtain rfl:=osi hF
    exact O_errX [0,0] (hrec _ _ _ _ _ hq) hX (by rfl) (by rfl) (by rfl) (by rfl) (fun m'=>⟨_,_,rfl,rfl,rfl⟩)
   | ok i =>
    simp only [] at hF
    refine O_cA [0,0] (FnX.ok (hrec _ _ _ _ _ hq)) ?_
    rintro r' cs' ⟨rfl,rfl⟩
    repeat first|refine sc rfl ?_|refine so rfl ?_|refine sb rfl ?_
    refine O_le _ (Le.lit 61 Val.c ([k.1,i.1]:List Val) rfl rfl rfl (by intro j hj;match j,hj with|0,_=>rfl|1,_=>rfl)) ?_
    refine O_append (m2:=2) (m3:=(acc++[k.1,i.1]).length) (row3:=fun j=>Val.c ((acc++[k.1,i.1]).getD j default)) (s2:=[(0,PT tk 0),(2,.s i.2.1),(3,I64 deep),(5,.cp (Ty.c t)),(8,.bp 8 0),(9,.bp 9 0)]) rfl rfl rfl rfl rfl (src_sl rfl (fun j hj=>rfl)) rfl ⟨rfl,rfl,rfl,rfl,rfl,rfl,trivial⟩ rfl rfl (by omega) (by simp only [maxLen];omega) (by simp) (fun j hj=>app_getD Val.c acc [k.1,i.1] (by simpa using hj)) ?_
    repeat refine so rfl ?_
    exact ⟨(n,i.2.1,acc++[k.1,i.1],i.2.2),hF,Nat.lt_succ_self _,Le.trans (Le.cellRename 9 4 62 91 (s2:=[(0,PT tk 0),(2,.s i.2.1),(3,I64 deep),(5,.cp (Ty.c t)),(8,.bp 8 0),(9,.bp 9 0)]) rfl rfl rfl ⟨rfl,rfl,rfl,rfl,rfl,rfl,trivial⟩ rfl rfl) (Le.sub [9,91,8,1000000,1000000] ⟨rfl,rfl,rfl,rfl,rfl,rfl,trivial⟩ rfl)⟩
 ·rw [if_pos m1] at hF
  obtain rfl:=osi hF
  refine C_le _ (Le.cellFreeze 9 4 91 rfl rfl rfl) ?_
  repeat refine sc rfl ?_
  iterate 2 refine so rfl ?_
  refine O_le _ (Le.boxsub 8 [I64 8,I64 0,.s [],SL 1 INTc ([]:List Int),.sl acc.length 5 (Val.rows acc)] rfl (.cons .refl (.cons .refl (.cons .refl (.cons .nil (.cons (.row (fun i hi=>(Val.rows_eq _ i hi).symm)) .nil)))))) ?_
  repeat (first|refine sc rfl ?_|refine so rfl ?_)
  exact ⟨_,[_,_],_,rfl,pickA_perm (is:=[2,2]) (As:=[_,_]) rfl,rfl,_,rfl,rfl⟩
end Go.Proofs

namespace Go.Proofs
open Go.Sy Go.Lib

noncomputable def fldGo (l:List Dcl) (rec:DRec) (nm:List UInt8) (deep:Int):Nat→List UInt8→Int→List Int→List Val→Int→Option (Except Int (List Int×List Val×Int))
 | 0,_,_,_,_,_=>none
 | n+1,s,last,tg,it,made=>if s=[] then some (.ok (tg,it,made)) else Option.bind (keyF l nm s) fun r=>match r with
  | .error e=>some (.error e)
  | .ok k=>if k.tag≤last then some (.error 9) else if k.is=false then
    Option.bind (KSkip_F k.rest k.w) fun q=>if q.2≠0 then some (.error q.2) else chk (0≤q.1∧q.1≤(k.rest.length:Int)) (fldGo l rec nm deep n (k.rest.drop q.1.toNat) k.tag tg it made)
   else Option.bind (DWire_X l FU k.fld.ty) fun w=>if k.w≠w then some (.error 4) else
    Option.bind (rec k.fld.ty k.rest (IntKind.i64.wrap (deep+1)) made) fun r2=>match r2 with
     | .error e=>some (.error e)
     | .ok v=>chk (tg.length<1000000∧it.length<1000000) (fldGo l rec nm deep n v.2.1 k.tag (tg++[k.tag]) (it++[v.1]) v.2.2)
def whGo (tg:List Int):List Fld→Nat→Bool
 | [],_=>true
 | f::fs,n=>if n<tg.length∧tg.getD n default=f.tag then whGo tg fs (n+1) else if f.ty.kind≠9 then false else whGo tg fs n
noncomputable def fieldsF (l:List Dcl) (rec:DRec) (nm s:List UInt8) (deep made:Int):Option (Except Int (Val×Int)) :=
 Option.bind (fldGo l rec nm deep (s.length+1) s 0 [] [] made) fun r=>match r with
  | .error e=>some (.error e)
  | .ok q=>Option.bind (DRows_F l nm) fun R=>chk (R.length≤1000000) (cond (whGo q.1 R 0) (some (.ok (⟨9,0,[],q.1,q.2.1⟩,q.2.2))) (some (.error 12)))
def CFd (b:Nat) (l:List Dcl) (tk:Nat) (most m:Int) (tg:List Int) (it:List Val) (g:Int) (w:Val) (b4 b9 b11 b13:Bool):List Ch :=
 [.box 9 26 [I64 9,I64 0,.s [],bif b11 then .own 77 else .own 90,bif b13 then .own 82 else .own 91],.box 18 26 (Val.c w),
  bif b4 then .vec 77 3 1 (tg.length+1) (fun i=>INTc ((tg++[g]).getD i default)) else .vec 90 3 1 tg.length (fun i=>INTc (tg.getD i default)),
  bif b9 then .vec 82 26 5 (it.length+1) (Val.rows (it++[w])) else .vec 91 26 5 it.length (Val.rows it),
  .box 8 26 [I64 0,I64 0,.s [],NIL,NIL],.abs (vmA b l),.abs (tkrC tk b most m)]
def PFd:Pl:=⟨[[],[],[],[],[],[],[],[],[],[4],[],[1,4,9],[],[6,4,9,11]],[4,9,11,13],[(4,77),(9,82)],[]⟩
theorem fields_x (b:Nat) (l:List Dcl) (hP:Prep l) (hW:WellL l) (tk:Nat) (most:Int) (rec:DRec) (hrec:DRecOK b l tk most rec) (made:Int) (nm s:List UInt8) (deep:Int) (r:Except Int (Val×Int)) (h:fieldsF l rec nm s deep made=some r) :
  FnX 24 [PT tk 0,.s nm,.s s,I64 deep] b l tk most made (r.map (fun q=>(AV.agg (Val.c q.1),q.2))):=by
 unfold fieldsF at h
 obtain ⟨r1,h1,h⟩:=bT h
 refine FnT.intro Tryz.tabOK Tryz.wide_ Tryz.func24 rfl (by decide) rfl (fun X hX=>?_)
 repeat (first|refine sc rfl ?_|refine so rfl ?_)
 refine C_le _ (Le.cellNil 9 3 90 3 1 (fun i=>INTc (([]:List Int).getD i default)) rfl rfl rfl rfl) ?_
 refine C_le _ (Le.cellNil 9 4 91 26 5 (Val.rows []) rfl rfl rfl rfl) ?_
 refine C_loop (fun q:Nat×List UInt8×Int×List Int×List Val×Int=>⟨[(0,PT tk 0),(1,.s nm),(2,.s q.2.1),(3,I64 deep),(8,.bp 8 0),(9,.bp 9 0),(10,I64 q.2.2.1)],[.box 9 26 [I64 9,I64 0,.s [],.own 90,.own 91],.vec 90 3 1 q.2.2.2.1.length (fun i=>INTc (q.2.2.2.1.getD i default)),.vec 91 26 5 q.2.2.2.2.1.length (Val.rows q.2.2.2.2.1),.box 8 26 [I64 0,I64 0,.s [],NIL,NIL],.abs (vmA b l),.abs (tkrC tk b most q.2.2.2.2.2)]⟩)
  (fun q=>fldGo l rec nm deep q.1 q.2.1 q.2.2.1 q.2.2.2.1 q.2.2.2.2.1 q.2.2.2.2.2=some r1) (fun q=>q.1) (s.length+1,s,0,[],[],made) h1 ?_ ?_
 ·exact Le.sub [9,90,91,8,1000000,1000000] ⟨rfl,rfl,rfl,rfl,rfl,rfl,rfl,trivial⟩ rfl
 clear h1
 rintro ⟨n,s,last,tg,it,made⟩ hF
 simp only [] at hF
 cases n with
 | zero=>cases hF
 | succ n =>
 simp only [fldGo] at hF
 show SymC _ _ _ ⟨[(0,PT tk 0),(1,.s nm),(2,.s s),(3,I64 deep),(8,.bp 8 0),(9,.bp 9 0),(10,I64 last)],[.box 9 26 [I64 9,I64 0,.s [],.own 90,.own 91],.vec 90 3 1 tg.length (fun i=>INTc (tg.getD i default)),.vec 91 26 5 it.length (Val.rows it),.box 8 26 [I64 0,I64 0,.s [],NIL,NIL],.abs (vmA b l),.abs (tkrC tk b most made)]⟩ _
 repeat (first|refine sc rfl ?_|refine so rfl ?_)
 refine C_if rfl (fun m1=>?_) (fun m1=>?_)<;>simp only [pL] at m1
 ·rw [if_neg m1] at hF
  obtain ⟨k,hk,hF⟩:=bT hF
  repeat (first|refine sc rfl ?_|refine so rfl ?_)
  cases k with
  | error e =>
   obtain rfl:=osi hF
   obtain rfl:=osi h
   exact O_errX [4,4] (key_x b l hP hW tk most made _ _ _ hk) hX (by rfl) (by rfl) (by rfl) (by rfl) (fun m'=>⟨_,_,rfl,rfl,rfl⟩)
  | ok k =>
   simp only [] at hF
   refine O_cA [4,4] (FnX.ok (key_x b l hP hW tk most made _ _ _ hk)) ?_
   rintro r' cs' ⟨rfl,rfl⟩
   repeat (first|refine sc rfl ?_|refine so rfl ?_)
   refine C_if rfl (fun c1=>?_) (fun c1=>?_)<;>simp only [pL] at c1
   ·rw [if_pos c1] at hF
    obtain rfl:=osi hF
    obtain rfl:=osi h
    repeat refine sc rfl ?_
    exact O_must [1,1] (by decide) hX (by rfl) (by rfl) (by rfl) ⟨_,_,rfl,rfl,rfl⟩
   rw [if_neg c1] at hF
   repeat (first|refine sc rfl ?_|refine so rfl ?_)
   refine C_if rfl (fun c2=>?_) (fun c2=>?_)<;>simp only [pL] at c2
   ·rw [if_pos c2] at hF
    obtain ⟨q,hq,hF⟩:=bT hF
    repeat (first|refine sc rfl ?_|refine so rfl ?_)
    refine O_cP (KSkip_w _ _ _ hq) fun r' hr=>?_
    subst hr
    repeat (first|refine sc rfl ?_|refine so rfl ?_)
    by_cases c3:q.2=0
    rotate_left
    ·rw [if_pos c3] at hF
     obtain rfl:=osi hF
     obtain rfl:=osi h
     exact O_must [1,1] c3 hX (by rfl) (by rfl) (by rfl) ⟨_,_,rfl,rfl,rfl⟩
    rw [if_neg (by simpa using c3)] at hF
    obtain ⟨hg,hF⟩:=gT hF
    rw [c3]
    refine O_cP must_p fun r' hr=>?_
    subst hr
    repeat (first|refine sc rfl ?_|refine so rfl ?_)
    refine ⟨hg,?_⟩
    repeat (first|refine sc rfl ?_|refine so rfl ?_)
    exact ⟨(n,k.rest.drop q.1.toNat,k.tag,tg,it,made),hF,Nat.lt_succ_self _,Le.sub [9,90,91,8,1000000,1000000] ⟨rfl,rfl,rfl,rfl,rfl,rfl,rfl,trivial⟩ rfl⟩
   rw [if_neg (by simp [c2])] at hF
   obtain ⟨w,hw,hF⟩:=bT hF
   repeat refine sc rfl ?_
   refine C_drawD rfl (by kernel_rfl) ?_
   repeat refine sd rfl ?_
   refine D_X (PT b 0) (X_loadP 2 (reads_box 0) rfl rfl rfl rfl rfl rfl) ?_
   repeat refine sd rfl ?_
   refine D_callA [1] (DWire_w b l hP hW _ _ hw) rfl rfl rfl rfl rfl ?_
   repeat refine sd rfl ?_
   repeat refine sc rfl ?_
   refine C_if rfl (fun c3=>?_) (fun c3=>?_)<;>simp only [pL] at c3
   ·rw [if_pos c3] at hF
    obtain rfl:=osi hF
    obtain rfl:=osi h
    repeat refine sc rfl ?_
    exact O_must [1,1] (by decide) hX (by rfl) (by rfl) (by rfl) ⟨_,_,rfl,rfl,rfl⟩
   rw [if_neg (by simpa using c3)] at hF
   obtain ⟨v,hv,hF⟩:=bT hF
   repeat (first|refine sc rfl ?_|refine so rfl ?_)
   cases v with
   | error e =>
    obtain rfl:=osi hF
    obtain rfl:=osi h
    exact O_errX [2,2] (hrec _ _ _ _ _ hv) hX (by rfl) (by rfl) (by rfl) (by rfl) (fun m'=>⟨_,_,rfl,rfl,rfl⟩)
   | ok v =>
    simp only [] at hF
    obtain ⟨⟨htg,hit⟩,hF⟩:=gT hF
    refine O_cA [2,2] (FnX.ok (hrec _ _ _ _ _ hv)) ?_
    rintro r' cs' ⟨rfl,rfl⟩
    repeat refine so rfl ?_
    refine C_le _ (Le.sub (s2:=⟨[(0,PT tk 0),(1,.s nm),(2,.s v.2.1),(3,I64 deep),(8,.bp 8 0),(9,.bp 9 0),(10,I64 k.tag),(11,I64 k.tag),(18,.bp 18 0)],[.box 9 26 [I64 9,I64 0,.s [],.own 90,.own 91],.box 18 26 (Val.c v.1),.vec 90 3 1 tg.length (fun i=>INTc (tg.getD i default)),.vec 91 26 5 it.length (Val.rows it),.box 8 26 [I64 0,I64 0,.s [],NIL,NIL],.abs (vmA b l),.abs (tkrC tk b most v.2.2)]⟩) [9,18,90,91,8,1000000,1000000] ⟨rfl,rfl,rfl,rfl,rfl,rfl,rfl,rfl,rfl,trivial⟩ rfl) ?_
    refine C_drawM PFd (fun L=>CFd b l tk most v.2.2 tg it k.tag v.1 (L 4) (L 9) (L 11) (L 13)) rfl (by kernel_rfl) (fun L L' h=>by show CFd b l tk most v.2.2 tg it k.tag v.1 (L 4) (L 9) (L 11) (L 13)=CFd b l tk most v.2.2 tg it k.tag v.1 (L' 4) (L' 9) (L' 11) (L' 13);rw [h 4 (by decide),h 9 (by decide),h 11 (by decide),h 13 (by decide)]) rfl ?_
    refine sm rfl ⟨trivial,?_⟩
    refine SM (.own 90) rfl (fun L h1 h2 h3=>?_) ?_
    ·show StepX _ _ _ _ _ (CFd b l tk most v.2.2 tg it k.tag v.1 (L 4) (L 9) (L 11) (L 13)) (CFd b l tk most v.2.2 tg it k.tag v.1 (L 4) (L 9) (L 11) (L 13)) _ _ _
     rw [h2 11 (show (1:Nat)∈PFd.anc 11 by decide)]
     exact X_stillX rfl rfl rfl trivial
    refine sm rfl ⟨trivial,?_⟩
    refine SM (.sl 1 1 (chunkRow 1 [I64 k.tag])) rfl (fun L h1 h2 h3=>?_) ?_
    ·show StepX _ _ _ _ _ (CFd b l tk most v.2.2 tg it k.tag v.1 (L 4) (L 9) (L 11) (L 13)) (CFd b l tk most v.2.2 tg it k.tag v.1 (L 4) (L 9) (L 11) (L 13)) _ _ _
     exact X_bsl rfl rfl rfl
    refine SM (.own 77) rfl (fun L h1 h2 h3=>?_) ?_
    ·show StepX _ _ _ _ _ (CFd b l tk most v.2.2 tg it k.tag v.1 (L 4) (L 9) (L 11) (L 13)) (CFd b l tk most v.2.2 tg it k.tag v.1 true (L 9) (L 11) (L 13)) _ _ _
     rw [show L 4=false from h3,h2 9 (show (4:Nat)∈PFd.anc 9 by decide),h2 11 (show (4:Nat)∈PFd.anc 11 by decide),h2 13 (show (4:Nat)∈PFd.anc 13 by decide)]
     exact (X_appendK (m3:=tg.length+1) (row3:=fun j=>INTc ((tg++[k.tag]).getD j default)) rfl rfl rfl rfl rfl rfl rfl (chunk1 (e:=1) rfl) rfl (show ((4,77):Nat×Nat)∈PFd.cre by decide) rfl rfl (by show (tg.length+1)*8≤140737488355328;omega) (by simp only [maxLen];omega) rfl (fun j hj=>ints_snoc hj)).perm (by exact (List.perm_middle (l₁:=[_,_])).symm)
    refine sm rfl ⟨trivial,?_⟩
    refine SM (.own 91) rfl (fun L h1 h2 h3=>?_) ?_
    ·show StepX _ _ _ _ _ (CFd b l tk most v.2.2 tg it k.tag v.1 (L 4) (L 9) (L 11) (L 13)) (CFd b l tk most v.2.2 tg it k.tag v.1 (L 4) (L 9) (L 11) (L 13)) _ _ _
     rw [h2 13 (show (6:Nat)∈PFd.anc 13 by decide)]
     exact X_stillX rfl rfl rfl trivial
    refine SM (.agg (Val.c v.1)) rfl (fun L h1 h2 h3=>?_) ?_
    ·show StepX _ _ _ _ _ (CFd b l tk most v.2.2 tg it k.tag v.1 (L 4) (L 9) (L 11) (L 13)) (CFd b l tk most v.2.2 tg it k.tag v.1 (L 4) (L 9) (L 11) (L 13)) _ _ _
     exact X_stillX rfl rfl rfl trivial
    refine SM (.sl 1 5 (chunkRow 5 (Val.c v.1))) rfl (fun L h1 h2 h3=>?_) ?_
    ·show StepX _ _ _ _ _ (CFd b l tk most v.2.2 tg it k.tag v.1 (L 4) (L 9) (L 11) (L 13)) (CFd b l tk most v.2.2 tg it k.tag v.1 (L 4) (L 9) (L 11) (L 13)) _ _ _
     exact X_bsl rfl rfl rfl
    refine SM (.own 82) rfl (fun L h1 h2 h3=>?_) ?_
    ·show StepX _ _ _ _ _ (CFd b l tk most v.2.2 tg it k.tag v.1 (L 4) (L 9) (L 11) (L 13)) (CFd b l tk most v.2.2 tg it k.tag v.1 (L 4) true (L 11) (L 13)) _ _ _
     rw [show L 9=false from h3,h1 4 (show (4:Nat)∈PFd.anc 9 by decide),h2 11 (show (9:Nat)∈PFd.anc 11 by decide),h2 13 (show (9:Nat)∈PFd.anc 13 by decide)]
     exact (X_appendK (m3:=it.length+1) (row3:=Val.rows (it++[v.1])) rfl rfl rfl rfl rfl rfl rfl (chunk1 (e:=5) rfl) rfl (show ((9,82):Nat×Nat)∈PFd.cre by decide) rfl rfl (by show (it.length+1)*80≤140737488355328;omega) (by simp only [maxLen];omega) rfl (fun j hj=>rows_snoc hj)).perm (by exact (List.perm_middle (l₁:=[_,_,_])).symm)
    refine sm rfl ⟨trivial,?_⟩
    refine SM .bad rfl (fun L h1 h2 h3=>?_) ?_
    ·show StepX _ _ _ _ _ (CFd b l tk most v.2.2 tg it k.tag v.1 (L 4) (L 9) (L 11) (L 13)) (CFd b l tk most v.2.2 tg it k.tag v.1 (L 4) (L 9) true (L 13)) _ _ _
     rw [show L 11=false from h3,h1 4 (show (4:Nat)∈PFd.anc 11 by decide),h1 9 (show (9:Nat)∈PFd.anc 11 by decide),h2 13 (show (11:Nat)∈PFd.anc 13 by decide)]
     exact X_storeK rfl rfl rfl rfl rfl rfl rfl rfl rfl
    refine sm rfl ⟨trivial,?_⟩
    refine SM .bad rfl (fun L h1 h2 h3=>?_) ?_
    ·show StepX _ _ _ _ _ (CFd b l tk most v.2.2 tg it k.tag v.1 (L 4) (L 9) (L 11) (L 13)) (CFd b l tk most v.2.2 tg it k.tag v.1 (L 4) (L 9) (L 11) true) _ _ _
     rw [show L 13=false from h3,h1 4 (show (4:Nat)∈PFd.anc 13 by decide),h1 9 (show (9:Nat)∈PFd.anc 13 by decide),h1 11 (show (11:Nat)∈PFd.anc 13 by decide)]
     exact X_storeK rfl rfl rfl rfl rfl rfl rfl rfl rfl
    refine sm rfl ?_
    refine ⟨(n,v.2.1,k.tag,tg++[k.tag],it++[v.1],v.2.2),hF,Nat.lt_succ_self _,?_⟩
    refine Le.trans (Le.cellRename 9 3 77 90 (s2:=[(0,PT tk 0),(1,.s nm),(2,.s v.2.1),(3,I64 deep),(8,.bp 8 0),(9,.bp 9 0),(10,I64 k.tag)]) rfl rfl rfl ⟨rfl,rfl,rfl,rfl,rfl,rfl,rfl,trivial⟩ rfl rfl) ?_
    refine Le.trans (Le.cellRename 9 4 82 91 (s2:=[(0,PT tk 0),(1,.s nm),(2,.s v.2.1),(3,I64 deep),(8,.bp 8 0),(9,.bp 9 0),(10,I64 k.tag)]) rfl rfl rfl ⟨rfl,rfl,rfl,rfl,rfl,rfl,rfl,trivial⟩ rfl rfl) ?_
    show Le _ _ _ ⟨_,[.box 9 26 [I64 9,I64 0,.s [],.own 90,.own 91],.vec 90 3 1 (tg++[k.tag]).length (fun i=>INTc ((tg++[k.tag]).getD i default)),.vec 91 26 5 (it++[v.1]).length (Val.rows (it++[v.1])),.box 8 26 [I64 0,I64 0,.s [],NIL,NIL],.abs (vmA b l),.abs (tkrC tk b most v.2.2)]⟩
    rw [List.length_append,List.length_append]
    exact Le.sub [9,90,91,8,1000000,1000000] ⟨rfl,rfl,rfl,rfl,rfl,rfl,rfl,trivial⟩ rfl
 ·rw [if_pos m1] at hF
  obtain rfl:=osi hF
  simp only [] at h
  obtain ⟨R,hR,h⟩:=bT h
  obtain ⟨hRl,h⟩:=gT h
  refine C_le _ (Le.cellFreeze 9 3 90 rfl rfl rfl) ?_
  refine C_le _ (Le.cellFreeze 9 4 91 rfl rfl rfl) ?_
  refine C_le _ (Le.freezebox 9 rfl rfl rfl) ?_
  repeat (first|refine sc rfl ?_|refine so rfl ?_)
  refine O_loadP 2 (reads_box 0) rfl rfl rfl rfl rfl rfl ?_
  repeat refine so rfl ?_
  refine O_cA [1] (vRows_w b l hP hW _ _ hR) ?_
  rintro r' cs' ⟨rfl,rfl⟩
  repeat (first|refine sc rfl ?_|refine so rfl ?_)
  refine C_loop (fun q:Nat×Nat=>⟨[(0,PT tk 0),(8,.bp 8 0),(9,.cp [I64 9,I64 0,.s [],SL 1 INTc tg,.sl it.length 5 (Val.rows it)]),(19,I64 (q.2:Nat)),(90,SL 5 Fld.c R),(91,I64 (R.length:Nat)),(92,I64 (q.1:Nat))],[.abs (vmA b l),.abs (tkrC tk b most made),.box 8 26 [I64 0,I64 0,.s [],NIL,NIL]]⟩)
   (fun q=>q.1≤R.length∧q.2≤q.1∧cond (whGo tg (R.drop q.1) q.2) (some (.ok (⟨9,0,[],tg,it⟩,made))) (some (.error 12))=some r) (fun q=>R.length-q.1) (0,0) ⟨Nat.zero_le _,Nat.le_refl _,h⟩ ?_ ?_
  ·exact Le.sub [1000000,1000000,8] ⟨rfl,rfl,rfl,rfl,rfl,rfl,rfl,trivial⟩ rfl
  rintro ⟨i,m⟩ ⟨hi,hmi,hF⟩
  simp only [] at hi hmi hF
  show SymC _ _ _ ⟨[(0,PT tk 0),(8,.bp 8 0),(9,.cp [I64 9,I64 0,.s [],SL 1 INTc tg,.sl it.length 5 (Val.rows it)]),(19,I64 (m:Nat)),(90,SL 5 Fld.c R),(91,I64 (R.length:Nat)),(92,I64 (i:Nat))],[.abs (vmA b l),.abs (tkrC tk b most made),.box 8 26 [I64 0,I64 0,.s [],NIL,NIL]]⟩ _
  repeat (first|refine sc rfl ?_|refine so rfl ?_)
  refine C_if rfl (fun d1=>?_) (fun d1=>?_)<;>simp only [pL] at d1
  ·have hil:i<R.length:=by omega
   have hdr:R.drop i=R.getD i default::R.drop (i+1):=by rw [List.drop_eq_getElem_cons hil,List.getD_eq_getElem?_getD,List.getElem?_eq_getElem hil];rfl
   rw [hdr] at hF
   simp only [whGo] at hF
   repeat (first|refine sc rfl ?_|refine so rfl ?_)
   refine ⟨by omega,?_⟩
   rw [Int.toNat_natCast]
   repeat (first|refine sc rfl ?_|refine so rfl ?_)
   refine C_le _ (Le.freezebox 21 rfl rfl rfl) ?_
   refine C_join ⟨[(0,PT tk 0),(8,.bp 8 0),(9,.cp [I64 9,I64 0,.s [],SL 1 INTc tg,.sl it.length 5 (Val.rows it)]),(19,I64 (m:Nat)),(21,.cp (Fld.c (R.getD i default))),(90,SL 5 Fld.c R),(91,I64 (R.length:Nat)),(92,I64 (i:Nat)),(110,B (decide (m<tg.length∧tg.getD m default=(R.getD i default).tag)))],[.abs (vmA b l),.abs (tkrC tk b most made),.box 8 26 [I64 0,I64 0,.s [],NIL,NIL]]⟩ ?_ (fun s hs=>C_le _ hs ?_)
   ·refine C_drawD rfl (by kernel_rfl) ?_
    iterate 6 refine sd rfl ?_
    refine D_case 5 rfl (fun hb=>?_) (fun hb=>?_)<;>simp only [pL] at hb
    ·have hmt:m<tg.length:=by omega
     iterate 3 refine sd rfl ?_
     refine sd rfl (And.intro ⟨by omega,by omega⟩ ?_)
     rw [Int.toNat_natCast]
     repeat refine sd rfl ?_
     repeat refine sc rfl ?_
     exact Le.sub [1000000,1000000,8] ⟨rfl,rfl,rfl,rfl,rfl,rfl,rfl,rfl,congrArg (fun x=>some (B x)) (by rw [Bool.eq_iff_iff];simp [hmt]),trivial⟩ rfl
    ·have hmt:¬ m<tg.length:=by omega
     repeat refine sd rfl ?_
     repeat refine sc rfl ?_
     exact Le.sub [1000000,1000000,8] ⟨rfl,rfl,rfl,rfl,rfl,rfl,rfl,rfl,congrArg (fun x=>some (B x)) (by rw [Bool.eq_iff_iff];simp [hmt]),trivial⟩ rfl
   refine C_if rfl (fun d2=>?_) (fun d2=>?_)<;>simp only [pL] at d2
   ·rw [if_pos d2] at hF
    repeat (first|refine sc rfl ?_|refine so rfl ?_)
    rw [w64 (x:=(m:Int)+1) (by omega) (by omega),w64 (x:=(i:Int)+1) (by omega) (by omega)]
    exact ⟨(i+1,m+1),⟨hil,by simp only [];omega,hF⟩,by simp only [];omega,Le.sub [1000000,1000000,8] ⟨rfl,rfl,rfl,rfl,rfl,rfl,rfl,trivial⟩ rfl⟩
   ·rw [if_neg d2] at hF
    repeat (first|refine sc rfl ?_|refine so rfl ?_)
    refine C_if rfl (fun d3=>?_) (fun d3=>?_)<;>simp only [pL] at d3
    ·rw [if_pos d3] at hF
     simp only [cond_false] at hF
     obtain rfl:=osi hF
     repeat refine sc rfl ?_
     exact O_must [0,0] (by decide) hX (by rfl) (by rfl) (by rfl) ⟨_,_,rfl,rfl,rfl⟩
    ·rw [if_neg (by simpa using d3)] at hF
     repeat (first|refine sc rfl ?_|refine so rfl ?_)
     rw [w64 (x:=(i:Int)+1) (by omega) (by omega)]
     exact ⟨(i+1,m),⟨hil,by simp only [];omega,hF⟩,by simp only [];omega,Le.sub [1000000,1000000,8] ⟨rfl,rfl,rfl,rfl,rfl,rfl,rfl,trivial⟩ rfl⟩
  ·obtain rfl:i=R.length:=by omega
   rw [List.drop_length] at hF
   simp only [whGo,cond_true] at hF
   obtain rfl:=osi hF
   repeat refine sc rfl ?_
   refine so rfl ?_
   refine O_le _ (Le.agg 119 [I64 9,I64 0,.s [],SL 1 INTc tg,.sl it.length 5 (Val.rows it)] rfl (.cons .refl (.cons .refl (.cons .refl (.cons .refl (.cons .refl .nil)))))) ?_
   refine so rfl ?_
   repeat (first|refine sc rfl ?_|refine so rfl ?_)
   exact ⟨_,[_,_],_,rfl,pickA_perm (is:=[1,1]) (As:=[_,_]) rfl,rfl,_,rfl,rfl⟩
end Go.Proofs

namespace Go.Proofs
open Go.Sy Go.Lib

noncomputable def listGo (rec:DRec) (t:Ty) (deep:Int):Nat→List UInt8→List Val→Int→Option (Except Int (Val×Int))
 | 0,_,_,_=>none
 | n+1,s,acc,made=>if s=[] then some (.ok (⟨7,0,[],[],acc⟩,made)) else
  chk (0<t.of.length∧acc.length<1000000) (Option.bind (rec (t.of.getD 0 default) s (IntKind.i64.wrap (deep+1)) made) fun r=>match r with
   | .error e=>some (.error e)
   | .ok i=>listGo rec t deep n i.2.1 (acc++[i.1]) i.2.2)
noncomputable def inF (l:List Dcl) (most:Int) (rec:DRec) (t:Ty) (s:List UInt8) (deep made:Int):Option (Except Int (Val×Int)) :=
 if t.kind=4∨t.kind=5 then match payF most made (s.length:Nat) with
  | .error e=>some (.error e)
  | .ok m=>Option.bind (if t.kind=4 then ValidV_F s else some true) fun v=>if v=false then some (.error 11) else some (.ok (⟨t.kind,0,s,[],[]⟩,m))
 else if t.kind=7 then listGo rec t deep (s.length+1) s [] made
 else if t.kind=8 then pairsF rec t s deep made
 else Option.bind (DKind_F l t.name) fun k=>if k=2 then unionF l rec t.name s deep made else fieldsF l rec t.name s deep made
theorem inside_x (b:Nat) (l:List Dcl) (hP:Prep l) (hW:WellL l) (tk:Nat) (most:Int) (rec:DRec) (hrec:DRecOK b l tk most rec) (made:Int) (t:Ty) (s:List UInt8) (deep:Int) (r:Except Int (Val×Int)) (h:inF l most rec t s deep made=some r) :
  FnX 81 [PT tk 0,.agg (Ty.c t),.s s,I64 deep] b l tk most made (r.map (fun q=>(AV.agg (Val.c q.1),q.2))):=by
 unfold inF at h
 refine FnT.intro Tryz.tabOK Tryz.wide_ Tryz.func81 rfl (by decide) rfl (fun X hX=>?_)
 iterate 2 refine sc rfl ?_
 refine so rfl ?_
 refine O_le _ (Le.freezebox 5 rfl rfl rfl) ?_
 repeat (first|refine sc rfl ?_|refine so rfl ?_)
 refine C_join ⟨[(0,PT tk 0),(2,.s s),(3,I64 deep),(5,.cp (Ty.c t)),(8,.bp 8 0),(12,I64 t.kind),(13,B (decide (t.kind=4∨t.kind=5)))],[.box 8 26 [I64 0,I64 0,.s [],NIL,NIL],.abs (vmA b l),.abs (tkrC tk b most made)]⟩ ?_ (fun st hs=>C_le _ hs ?_)
 ·refine C_if rfl (fun d1=>?_) (fun d1=>?_)<;>simp only [pL] at d1
  ·repeat refine sc rfl ?_
   exact Le.sub [8,1000000,1000000] ⟨rfl,rfl,rfl,rfl,rfl,rfl,congrArg (fun x=>some (B x)) (by simp [d1]),trivial⟩ rfl
  ·repeat (first|refine sc rfl ?_|refine so rfl ?_)
   exact Le.sub [8,1000000,1000000] ⟨rfl,rfl,rfl,rfl,rfl,rfl,congrArg (fun x=>some (B x)) (by rw [Bool.eq_iff_iff];simp [d1]),trivial⟩ rfl
 refine C_if rfl (fun c1=>?_) (fun c1=>?_)<;>simp only [pL] at c1
 ·rw [if_pos c1] at h
  repeat (first|refine sc rfl ?_|refine so rfl ?_)
  have hpx:=pay_x b l tk most made (s.length:Nat)
  cases hp:payF most made (s.length:Nat) with
  | error e =>
   rw [hp] at h hpx
   obtain rfl:=osi h
   exact O_errX [1,1] hpx hX (by rfl) (by rfl) (by rfl) (by rfl) (fun m'=>⟨_,_,rfl,rfl,rfl⟩)
  | ok m =>
   rw [hp] at h hpx
   simp only [] at h
   obtain ⟨v,hv,h⟩:=bT h
   refine O_cA [1,1] (FnX.ok hpx) ?_
   rintro r' cs' ⟨rfl,rfl⟩
   repeat (first|refine sc rfl ?_|refine so rfl ?_)
   refine O_case 23 rfl (fun hb=>?_) (fun hb=>?_)<;>simp only [pL] at hb
   ·rw [if_pos hb] at hv
    repeat refine so rfl ?_
    refine O_cA [0] (vValid_w b l hP hW _ _ hv) ?_
    rintro r' cs' ⟨rfl,rfl⟩
    repeat refine so rfl ?_
    refine C_if rfl (fun c2=>?_) (fun c2=>?_)<;>simp only [pL] at c2
    ·rw [if_pos c2] at h
     obtain rfl:=osi h
     repeat refine sc rfl ?_
     exact O_must [0,0] (by decide) hX (by rfl) (by rfl) (by rfl) ⟨_,_,rfl,rfl,rfl⟩
    ·rw [if_neg (by simp [c2])] at h
     obtain rfl:=osi h
     repeat refine sc rfl ?_
     refine so rfl ?_
     refine so rfl ?_
     refine so rfl ?_
     refine so rfl ?_
     refine so rfl ?_
     refine O_le _ (Le.boxsub 8 [I64 t.kind,I64 0,.s s,SL 1 INTc ([]:List Int),.sl ([]:List Val).length 5 (Val.rows ([]:List Val))] rfl (.cons .refl (.cons .refl (.cons .refl (.cons .nil (.cons .nil .nil)))))) ?_
     repeat (first|refine sc rfl ?_|refine so rfl ?_)
     exact ⟨_,[_,_],_,rfl,pickA_perm (is:=[1,1]) (As:=[_,_]) rfl,rfl,_,rfl,rfl⟩
   ·rw [if_neg hb] at hv
    obtain rfl:=osi hv
    rw [if_neg (by simp)] at h
    obtain rfl:=osi h
    repeat refine so rfl ?_
    refine C_false rfl rfl ?_
    repeat refine sc rfl ?_
    refine so rfl ?_
    refine so rfl ?_
    refine so rfl ?_
    refine so rfl ?_
    refine so rfl ?_
    refine O_le _ (Le.boxsub 8 [I64 t.kind,I64 0,.s s,SL 1 INTc ([]:List Int),.sl ([]:List Val).length 5 (Val.rows ([]:List Val))] rfl (.cons .refl (.cons .refl (.cons .refl (.cons .nil (.cons .nil .nil)))))) ?_
    repeat (first|refine sc rfl ?_|refine so rfl ?_)
    exact ⟨_,[_,_],_,rfl,pickA_perm (is:=[1,1]) (As:=[_,_]) rfl,rfl,_,rfl,rfl⟩
 rw [if_neg c1] at h
 repeat (first|refine sc rfl ?_|refine so rfl ?_)
 refine C_if rfl (fun c7=>?_) (fun c7=>?_)<;>simp only [pL] at c7
 ·rw [if_pos c7] at h
  repeat (first|refine sc rfl ?_|refine so rfl ?_)
  refine C_le _ (Le.cellNil 9 4 91 26 5 (fun i=>Val.c (([]:List Val).getD i default)) rfl rfl rfl rfl) ?_
  refine C_loop (fun q:Nat×List UInt8×List Val×Int=>⟨[(0,PT tk 0),(2,.s q.2.1),(3,I64 deep),(5,.cp (Ty.c t)),(8,.bp 8 0),(9,.bp 9 0)],[.box 9 26 [I64 7,I64 0,.s [],NIL,.own 91],VEC 91 26 5 Val.c q.2.2.1,.box 8 26 [I64 0,I64 0,.s [],NIL,NIL],.abs (vmA b l),.abs (tkrC tk b most q.2.2.2)]⟩)
   (fun q=>listGo rec t deep q.1 q.2.1 q.2.2.1 q.2.2.2=some r) (fun q=>q.1) (s.length+1,s,[],made) h ?_ ?_
  ·exact Le.sub [9,91,8,1000000,1000000] ⟨rfl,rfl,rfl,rfl,rfl,rfl,trivial⟩ rfl
  rintro ⟨n,s,acc,made⟩ hF
  simp only [] at hF
  cases n with
  | zero=>cases hF
  | succ n =>
  simp only [listGo] at hF
  show SymC _ _ _ ⟨[(0,PT tk 0),(2,.s s),(3,I64 deep),(5,.cp (Ty.c t)),(8,.bp 8 0),(9,.bp 9 0)],[.box 9 26 [I64 7,I64 0,.s [],NIL,.own 91],VEC 91 26 5 Val.c acc,.box 8 26 [I64 0,I64 0,.s [],NIL,NIL],.abs (vmA b l),.abs (tkrC tk b most made)]⟩ _
  repeat (first|refine sc rfl ?_|refine so rfl ?_)
  refine C_if rfl (fun m1=>?_) (fun m1=>?_)<;>simp only [pL] at m1
  ·rw [if_neg m1] at hF
   obtain ⟨⟨hof,hac⟩,hF⟩:=gT hF
   obtain ⟨q,hq,hF⟩:=bT hF
   iterate 4 refine sc rfl ?_
   refine so rfl ?_
   refine so rfl ?_
   repeat refine sc rfl ?_
   iterate 3 refine so rfl ?_
   refine O_le _ (Le.one 41 (SL 3 Ty.c t.of) rfl (.row (Ty.rows_eq _))) ?_
   refine so rfl (And.intro ⟨by omega,by omega⟩ ?_)
   rw [show Int.toNat 0=0 from rfl]
   repeat refine so rfl ?_
   cases q with
   | error e =>
    obtain rfl:=osi hF
    exact O_errX [4,4] (hrec _ _ _ _ _ hq) hX (by rfl) (by rfl) (by rfl) (by rfl) (fun m'=>⟨_,_,rfl,rfl,rfl⟩)
   | ok i =>
    simp only [] at hF
    refine O_cA [4,4] (FnX.ok (hrec _ _ _ _ _ hq)) ?_
    rintro r' cs' ⟨rfl,rfl⟩
    repeat first|refine sc rfl ?_|refine so rfl ?_|refine sb rfl ?_
    refine O_le _ (Le.lit 53 Val.c ([i.1]:List Val) rfl rfl rfl (by intro j hj;match j,hj with|0,_=>rfl)) ?_
    refine O_append (m2:=1) (m3:=(acc++[i.1]).length) (row3:=fun j=>Val.c ((acc++[i.1]).getD j default)) (s2:=[(0,PT tk 0),(2,.s i.2.1),(3,I64 deep),(5,.cp (Ty.c t)),(8,.bp 8 0),(9,.bp 9 0)]) rfl rfl rfl rfl rfl (src_sl rfl (fun j hj=>rfl)) rfl ⟨rfl,rfl,rfl,rfl,rfl,rfl,trivial⟩ rfl rfl (by omega) (by simp only [maxLen];omega) (by simp) (fun j hj=>app_getD Val.c acc [i.1] (by simpa using hj)) ?_
    repeat refine so rfl ?_
    exact ⟨(n,i.2.1,acc++[i.1],i.2.2),hF,Nat.lt_succ_self _,Le.trans (Le.cellRename 9 4 54 91 (s2:=[(0,PT tk 0),(2,.s i.2.1),(3,I64 deep),(5,.cp (Ty.c t)),(8,.bp 8 0),(9,.bp 9 0)]) rfl rfl rfl ⟨rfl,rfl,rfl,rfl,rfl,rfl,trivial⟩ rfl rfl) (Le.sub [9,91,8,1000000,1000000] ⟨rfl,rfl,rfl,rfl,rfl,rfl,trivial⟩ rfl)⟩
  ·rw [if_pos m1] at hF
   obtain rfl:=osi hF
   refine C_le _ (Le.cellFreeze 9 4 91 rfl rfl rfl) ?_
   repeat refine sc rfl ?_
   iterate 2 refine so rfl ?_
   refine O_le _ (Le.boxsub 8 [I64 7,I64 0,.s [],SL 1 INTc ([]:List Int),.sl acc.length 5 (Val.rows acc)] rfl (.cons .refl (.cons .refl (.cons .refl (.cons .nil (.cons (.row (fun i hi=>(Val.rows_eq _ i hi).symm)) .nil)))))) ?_
   repeat (first|refine sc rfl ?_|refine so rfl ?_)
   exact ⟨_,[_,_],_,rfl,pickA_perm (is:=[2,2]) (As:=[_,_]) rfl,rfl,_,rfl,rfl⟩
 rw [if_neg c7] at h
 repeat (first|refine sc rfl ?_|refine so rfl ?_)
 refine C_if rfl (fun c8=>?_) (fun c8=>?_)<;>simp only [pL] at c8
 ·rw [if_pos c8] at h
  repeat (first|refine sc rfl ?_|refine so rfl ?_)
  have hx:=pairs_x b l hP hW tk most rec hrec made t s deep r h
  cases r with
  | error e=>exact O_errX [1,1] hx hX (by rfl) (by rfl) (by rfl) (by rfl) (fun m'=>⟨_,_,rfl,rfl,rfl⟩)
  | ok q =>
   refine O_cA [1,1] (FnX.ok hx) ?_
   rintro r' cs' ⟨rfl,rfl⟩
   repeat (first|refine sc rfl ?_|refine so rfl ?_)
   exact ⟨_,[_,_],_,rfl,pickA_perm (is:=[1,1]) (As:=[_,_]) rfl,rfl,_,rfl,rfl⟩
 rw [if_neg c8] at h
 obtain ⟨k,hk,h⟩:=bT h
 repeat refine sc rfl ?_
 refine C_drawD rfl (by kernel_rfl) ?_
 repeat refine sd rfl ?_
 refine D_X (PT b 0) (X_loadP 2 (reads_box 0) rfl rfl rfl rfl rfl rfl) ?_
 repeat refine sd rfl ?_
 refine D_callA [1] (vKind_w b l hP hW _ _ hk) rfl rfl rfl rfl rfl ?_
 repeat refine sd rfl ?_
 repeat refine sc rfl ?_
 refine C_if rfl (fun c2=>?_) (fun c2=>?_)<;>simp only [pL] at c2
 ·rw [if_pos c2] at h
  repeat (first|refine sc rfl ?_|refine so rfl ?_)
  have hx:=union_x b l hP hW tk most rec hrec made t.name s deep r h
  cases r with
  | error e=>exact O_errX [1,1] hx hX (by rfl) (by rfl) (by rfl) (by rfl) (fun m'=>⟨_,_,rfl,rfl,rfl⟩)
  | ok q =>
   refine O_cA [1,1] (FnX.ok hx) ?_
   rintro r' cs' ⟨rfl,rfl⟩
   repeat (first|refine sc rfl ?_|refine so rfl ?_)
   exact ⟨_,[_,_],_,rfl,pickA_perm (is:=[1,1]) (As:=[_,_]) rfl,rfl,_,rfl,rfl⟩
 ·rw [if_neg c2] at h
  repeat (first|refine sc rfl ?_|refine so rfl ?_)
  have hx:=fields_x b l hP hW tk most rec hrec made t.name s deep r h
  cases r with
  | error e=>exact O_errX [1,1] hx hX (by rfl) (by rfl) (by rfl) (by rfl) (fun m'=>⟨_,_,rfl,rfl,rfl⟩)
  | ok q =>
   refine O_cA [1,1] (FnX.ok hx) ?_
   rintro r' cs' ⟨rfl,rfl⟩
   repeat (first|refine sc rfl ?_|refine so rfl ?_)
   exact ⟨_,[_,_],_,rfl,pickA_perm (is:=[1,1]) (As:=[_,_]) rfl,rfl,_,rfl,rfl⟩
end Go.Proofs

namespace Go.Proofs
open Go.Sy Go.Lib

noncomputable def contentF (l:List Dcl) (most:Int) (rec:DRec):DRec:=fun t s deep made =>
 if t.kind=9 then chk (0<t.of.length) (rec (t.of.getD 0 default) s deep made)
 else if 8≤deep then some (.error 10)
 else match payF most made 8 with
  | .error e=>some (.error e)
  | .ok m=>Option.bind (DWire_X l FU t) fun w =>
   if w=0 then Option.bind (numberF l t s) fun r=>match r with
    | .error e=>some (.error e)
    | .ok q=>some (.ok (q.1,q.2,m))
   else Option.bind (textF s) fun r=>match r with
    | .error e=>some (.error e)
    | .ok q=>Option.bind (inF l most rec t q.1 deep m) fun r2=>match r2 with
     | .error e=>some (.error e)
     | .ok v=>some (.ok (v.1,q.2,v.2))
theorem content_x (b:Nat) (l:List Dcl) (hP:Prep l) (hW:WellL l) (tk:Nat) (most:Int) (rec:DRec) (hrec:DRecOK b l tk most rec):DRecOK b l tk most (contentF l most rec):=by
 intro t s deep made r h
 unfold contentF at h
 refine FnT.intro Tryz.tabOK Tryz.wide_ Tryz.func41 rfl (by decide) rfl (fun X hX=>?_)
 iterate 2 refine sc rfl ?_
 refine so rfl ?_
 refine O_le _ (Le.freezebox 5 rfl rfl rfl) ?_
 repeat (first|refine sc rfl ?_|refine so rfl ?_)
 refine C_if rfl (fun c1=>?_) (fun c1=>?_)<;>simp only [pL] at c1
 ·rw [if_pos c1] at h
  obtain ⟨hof,h⟩:=gT h
  repeat refine sc rfl ?_
  iterate 2 refine so rfl ?_
  refine so rfl ?_
  refine O_le _ (Le.one 17 (SL 3 Ty.c t.of) rfl (.row (Ty.rows_eq _))) ?_
  refine so rfl (And.intro ⟨by omega,by omega⟩ ?_)
  rw [show Int.toNat 0=0 from rfl]
  repeat refine so rfl ?_
  cases r with
  | error e=>exact O_errX [1,1] (hrec _ _ _ _ _ h) hX (by rfl) (by rfl) (by rfl) (by rfl) (fun m'=>⟨_,_,rfl,rfl,rfl⟩)
  | ok q =>
   refine O_cA [1,1] (FnX.ok (hrec _ _ _ _ _ h)) ?_
   rintro r' cs' ⟨rfl,rfl⟩
   repeat (first|refine sc rfl ?_|refine so rfl ?_)
   exact ⟨_,[_,_],_,rfl,pickA_perm (is:=[1,1]) (As:=[_,_]) rfl,rfl,_,rfl,rfl⟩
 rw [if_neg c1] at h
 repeat (first|refine sc rfl ?_|refine so rfl ?_)
 refine C_if rfl (fun c2=>?_) (fun c2=>?_)<;>simp only [pL] at c2
 ·rw [if_pos c2] at h
  obtain rfl:=osi h
  repeat refine sc rfl ?_
  exact O_must [1,1] (by decide) hX (by rfl) (by rfl) (by rfl) ⟨_,_,rfl,rfl,rfl⟩
 rw [if_neg c2] at h
 repeat (first|refine sc rfl ?_|refine so rfl ?_)
 have hpx:=pay_x b l tk most made 8
 cases hp:payF most made 8 with
 | error e =>
  rw [hp] at h hpx
  obtain rfl:=osi h
  exact O_errX [1,1] hpx hX (by rfl) (by rfl) (by rfl) (by rfl) (fun m'=>⟨_,_,rfl,rfl,rfl⟩)
 | ok m =>
  rw [hp] at h hpx
  simp only [] at h
  obtain ⟨w,hw,h⟩:=bT h
  refine O_cA [1,1] (FnX.ok hpx) ?_
  rintro r' cs' ⟨rfl,rfl⟩
  repeat (first|refine sc rfl ?_|refine so rfl ?_)
  refine C_drawD rfl (by kernel_rfl) ?_
  repeat refine sd rfl ?_
  refine D_X (PT b 0) (X_loadP 1 (reads_box 0) rfl rfl rfl rfl rfl rfl) ?_
  repeat refine sd rfl ?_
  refine D_callA [0] (DWire_w b l hP hW _ _ hw) rfl rfl rfl rfl rfl ?_
  repeat refine sd rfl ?_
  repeat refine sc rfl ?_
  refine C_if rfl (fun c3=>?_) (fun c3=>?_)<;>simp only [pL] at c3
  ·rw [if_pos c3] at h
   obtain ⟨q,hq,h⟩:=bT h
   repeat (first|refine sc rfl ?_|refine so rfl ?_)
   cases q with
   | error e =>
    obtain rfl:=osi h
    exact O_errX [0,0] (number_x b l hP hW tk most m _ _ _ hq) hX (by rfl) (by rfl) (by rfl) (by rfl) (fun m'=>⟨_,_,rfl,rfl,rfl⟩)
   | ok q =>
    obtain rfl:=osi h
    refine O_cA [0,0] (FnX.ok (number_x b l hP hW tk most m _ _ _ hq)) ?_
    rintro r' cs' ⟨rfl,rfl⟩
    repeat (first|refine sc rfl ?_|refine so rfl ?_)
    exact ⟨_,[_,_],_,rfl,pickA_perm (is:=[1,1]) (As:=[_,_]) rfl,rfl,_,rfl,rfl⟩
  rw [if_neg c3] at h
  obtain ⟨q,hq,h⟩:=bT h
  repeat (first|refine sc rfl ?_|refine so rfl ?_)
  cases q with
  | error e =>
   obtain rfl:=osi h
   refine O_throw [] (FnT.toThrow (text_x _ _ hq) (fun x cs' ⟨q,h1,_⟩=>by cases h1)) (by rfl) (by rfl) (by rfl) (by rfl) ?_
   rintro x cs' ⟨e2,h1,rfl,rfl⟩
   cases h1
   exact hX _ _ _ [_,_] _ (pickA_perm (is:=[0,0]) (As:=[_,_]) rfl) ⟨_,_,rfl,rfl,rfl⟩
  | ok q =>
   simp only [] at h
   obtain ⟨v,hv,h⟩:=bT h
   refine O_cA [] (FnT.toA (text_x _ _ hq) (fun x cs' ⟨q,h1,_⟩=>by cases h1)) ?_
   rintro r' cs' ⟨q2,h1,rfl,rfl⟩
   cases h1
   repeat (first|refine sc rfl ?_|refine so rfl ?_)
   cases v with
   | error e =>
    obtain rfl:=osi h
    exact O_errX [0,0] (inside_x b l hP hW tk most rec hrec m _ _ _ _ hv) hX (by rfl) (by rfl) (by rfl) (by rfl) (fun m'=>⟨_,_,rfl,rfl,rfl⟩)
   | ok v =>
    obtain rfl:=osi h
    refine O_cA [0,0] (FnX.ok (inside_x b l hP hW tk most rec hrec m _ _ _ _ hv)) ?_
    rintro r' cs' ⟨rfl,rfl⟩
    repeat (first|refine sc rfl ?_|refine so rfl ?_)
    exact ⟨_,[_,_],_,rfl,pickA_perm (is:=[1,1]) (As:=[_,_]) rfl,rfl,_,rfl,rfl⟩

noncomputable def DContent_X (l:List Dcl) (most:Int):Nat→DRec
 | 0=>fun _ _ _ _=>none
 | n+1=>contentF l most (DContent_X l most n)
theorem DContent_w (b:Nat) (l:List Dcl) (hP:Prep l) (hW:WellL l) (tk:Nat) (most:Int):∀ n,DRecOK b l tk most (DContent_X l most n)
 | 0=>fun _ _ _ _ _ h=>by cases h
 | n+1=>content_x b l hP hW tk most _ (DContent_w b l hP hW tk most n)
end Go.Proofs

namespace Go.Sy
open Go.RowKit

theorem Iter_goS {σ R : Type} {body : σ × Int → Option ((σ × Int) ⊕ R)} (n : Nat) (g : Nat → σ) (e : R) (hb : ∀ i, i < n → body (g i, (i : Int)) = some (.inl (g (i + 1), ((i + 1 : Nat) : Int)))) (he : body (g n, (n : Int)) = some (.inr e)) : Iter body (g 0, 0) = some e := by
  have key : ∀ m k, k + m = n → Iter body (g k, (k : Int)) = some e := by
    intro m
    induction m with
    | zero => intro k hk; obtain rfl : k = n := by omega
              exact Iter_end he
    | succ m ih => intro k hk; rw [Iter_next (hb k (by omega))]; exact ih (k + 1) (by omega)
  exact key n 0 (by omega)
theorem Iter_go {R : Type} {body : Int → Option (Int ⊕ R)} (n : Nat) (e : R) (hb : ∀ i, i < n → body (i : Int) = some (.inl ((i + 1 : Nat) : Int))) (he : body (n : Int) = some (.inr e)) : Iter body 0 = some e := by
  have key : ∀ m k, k + m = n → Iter body (k : Int) = some e := by
    intro m
    induction m with
    | zero => intro k hk; obtain rfl : k = n := by omega
              exact Iter_end he
    | succ m ih => intro k hk; rw [Iter_next (hb k (by omega))]; exact ih (k + 1) (by omega)
  exact key n 0 (by omega)
end Go.Sy

namespace Go.Proofs
open Go.Sy Go.Lib

theorem cDT {α:Type} {p:Prop} [Decidable p] {x y:α} (h:p):cond (decide p) x y=x:=by rw [decide_eq_true h];rfl
theorem cDF {α:Type} {p:Prop} [Decidable p] {x y:α} (h:¬ p):cond (decide p) x y=y:=by rw [decide_eq_false h];rfl
def zig (n:Int):Nat:=if 0≤n then (2*n).toNat else (-2*n-1).toNat
def unz (m:Nat):Int:=if m % 2=0 then ((m / 2:Nat):Int) else -((m / 2:Nat):Int)-1
theorem unz_zig (n:Int):unz (zig n)=n:=by unfold unz zig;(repeat' split)<;>omega
theorem zig_lt {n:Int} (h1:-9223372036854775808≤n) (h2:n≤9223372036854775807):zig n<18446744073709551616:=by unfold zig;split<;>omega

def usg (n:Int):Nat:=if 0≤n then n.toNat else (n+18446744073709551616).toNat
theorem usg_lt {n:Int} (h1:-9223372036854775808≤n) (h2:n≤9223372036854775807):usg n<18446744073709551616:=by unfold usg;split<;>omega
theorem u64_usg {n:Int} (h1:-9223372036854775808≤n) (h2:n≤9223372036854775807):IntKind.u64.wrap n=((usg n:Nat):Int):=by
 unfold usg
 simp only [IntKind.wrap,show IntKind.u64.signed=false from rfl,show IntKind.u64.bits=64 from rfl,Bool.false_and,Bool.false_eq_true,if_false]
 split<;>omega
theorem i64_u {x:Int} (h:0≤x) (h2:x<18446744073709551616):IntKind.i64.wrap x=if x<9223372036854775808 then x else x-18446744073709551616:=by
 simp only [IntKind.wrap,IntKind.bits,IntKind.signed,Bool.true_and]
 split<;>rename_i h3<;>simp at h3<;>split<;>omega
theorem i64_usg {n:Int} (h1:-9223372036854775808≤n) (h2:n≤9223372036854775807):IntKind.i64.wrap ((usg n:Nat):Int)=n:=by
 have:=usg_lt h1 h2
 rw [i64_u (by omega) (by omega)]
 unfold usg
 (repeat' split)<;>omega

theorem u64_mod (x:Int):IntKind.u64.wrap x=x % 18446744073709551616:=by
 simp only [IntKind.wrap,show IntKind.u64.signed=false from rfl,show IntKind.u64.bits=64 from rfl,Bool.false_and,Bool.false_eq_true,if_false]
 rfl
theorem ofInt_nat (a:Int):((BitVec.ofInt 64 a).toNat:Int)=a % 18446744073709551616:=by
 rw [BitVec.toNat_ofInt]
 have:(0:Int)≤a % 18446744073709551616:=Int.emod_nonneg _ (by decide)
 omega
theorem all64:BitVec.ofInt 64 18446744073709551615=BitVec.allOnes 64:=by decide
theorem all64':BitVec.ofInt 64 (-1)=BitVec.allOnes 64:=by decide
theorem zero64:BitVec.ofInt 64 0=0#64:=by decide
theorem xorU0 {a:Int} (h:0≤a) (h2:a<18446744073709551616):bitsV .xor .u64 a 0=a:=by
 show IntKind.u64.wrap ((BitVec.ofInt 64 a ^^^ BitVec.ofInt 64 0).toNat:Int)=a
 rw [zero64,BitVec.xor_zero,ofInt_nat,u64_mod]
 omega
theorem xorU1 {a:Int} (h:0≤a) (h2:a<18446744073709551616):bitsV .xor .u64 a 18446744073709551615=18446744073709551615-a:=by
 show IntKind.u64.wrap ((BitVec.ofInt 64 a ^^^ BitVec.ofInt 64 18446744073709551615).toNat:Int)=_
 rw [all64,BitVec.xor_allOnes,BitVec.toNat_not,u64_mod]
 have h3:=ofInt_nat a
 have h4:=(BitVec.ofInt 64 a).isLt
 omega
theorem xorI0 {a:Int} (h:0≤a) (h2:a<9223372036854775808):bitsV .xor .i64 a 0=a:=by
 show IntKind.i64.wrap ((BitVec.ofInt 64 a ^^^ BitVec.ofInt 64 0).toNat:Int)=a
 rw [zero64,BitVec.xor_zero,ofInt_nat,w64 (by omega) (by omega)]
 omega
theorem xorI1 {a:Int} (h:0≤a) (h2:a<9223372036854775808):bitsV .xor .i64 a (-1)=-a-1:=by
 show IntKind.i64.wrap ((BitVec.ofInt 64 a ^^^ BitVec.ofInt 64 (-1)).toNat:Int)=_
 rw [all64',BitVec.xor_allOnes,BitVec.toNat_not]
 have h3:=ofInt_nat a
 have h4:=(BitVec.ofInt 64 a).isLt
 rw [i64_u (by omega) (by omega)]
 split<;>omega
theorem andU1 (m:Nat) (h:m<18446744073709551616):bitsV .and .u64 (m:Int) 1=((m % 2:Nat):Int):=by
 show IntKind.u64.wrap ((BitVec.ofInt 64 (m:Int) &&& BitVec.ofInt 64 1).toNat:Int)=_
 have h3:=ofInt_nat (m:Int)
 have e1:(BitVec.ofInt 64 1).toNat=1:=by decide
 rw [BitVec.toNat_and,e1,Nat.and_one_is_mod,u64_mod]
 omega

theorem VTurn_ok {n:Int} (h1:-9223372036854775808≤n) (h2:n≤9223372036854775807):VTurn_F n=some ((zig n:Nat):Int):=by
 unfold VTurn_F
 rw [chk_pos (by decide),chk_pos (by decide)]
 show some (bitsV .xor .u64 (IntKind.u64.wrap (IntKind.u64.wrap n*2)) (IntKind.u64.wrap (Int.fdiv n 9223372036854775808)))=_
 rw [Int.fdiv_eq_ediv_of_nonneg _ (by decide),u64_mod n,u64_mod,u64_mod]
 unfold zig
 by_cases h:0≤n
 ·rw [if_pos h,show n / 9223372036854775808 % 18446744073709551616=0 by omega,xorU0 (by omega) (by omega)]
  congr 1;omega
 ·rw [if_neg h,show n / 9223372036854775808 % 18446744073709551616=18446744073709551615 by omega,xorU1 (by omega) (by omega)]
  congr 1;omega
theorem VBack_ok {m:Nat} (h:m<18446744073709551616):VBack_F (m:Int)=some (unz m):=by
 unfold VBack_F
 rw [chk_pos (by decide),andU1 m h]
 show some (bitsV .xor .i64 (IntKind.i64.wrap (Int.fdiv (m:Int) 2)) (IntKind.i64.wrap (0-IntKind.i64.wrap ((m % 2:Nat):Int))))=_
 rw [Int.fdiv_eq_ediv_of_nonneg _ (by decide),w64 (x:=(m:Int) / 2) (by omega) (by omega),w64 (x:=((m % 2:Nat):Int)) (by omega) (by omega)]
 unfold unz
 by_cases h2:m % 2=0
 ·rw [if_pos h2,h2,show IntKind.i64.wrap (0-((0:Nat):Int))=0 from by decide,xorI0 (by omega) (by omega)]
  congr 1
 ·rw [if_neg h2,show m % 2=1 by omega,show IntKind.i64.wrap (0-((1:Nat):Int))=-1 from by decide,xorI1 (by omega) (by omega)]
  congr 1

theorem VPut_ok {n:Nat} (h:n<18446744073709551616):VPut_F (n:Int)=some (vput n):=by
 unfold VPut_F
 rw [chk_pos (by omega),Int.toNat_natCast]
theorem VPutInt_ok {n:Int} (h1:-9223372036854775808≤n) (h2:n≤9223372036854775807):VPutInt_F n=some (vput (zig n)):=by
 unfold VPutInt_F
 rw [VTurn_ok h1 h2,Option.bind_some,VPut_ok (zig_lt h1 h2)];rfl
theorem VTake_ok {n:Nat} (h:n<18446744073709551616) (r:List UInt8) (hl:(vput n++r).length≤9223372036854775807):VTake_F (vput n++r)=some ((n:Int),((vput n).length:Int),0):=by
 unfold VTake_F
 rw [chk_pos hl,tk_put n r h]
theorem vput_pos (n:Nat):1≤(vput n).length:=by
 by_cases h:n<128
 ·rw [vput_lt h];simp
 ·rw [vput_ge h];simp
theorem vput_len1 {n:Nat} (h:n<128):(vput n).length=1:=by rw [vput_lt h];rfl
theorem vput_len22 {n:Nat} (h:n<16384):(vput n).length≤2:=vput_len2 1 n (by simpa using h)

def span (s:List UInt8):List UInt8:=vput s.length++s
theorem span_len (s:List UInt8):s.length+1≤(span s).length:=by
 unfold span;rw [List.length_append];have:=vput_pos s.length;omega
theorem span_le {s:List UInt8} (h:s.length<18446744073709551616):(span s).length≤s.length+10:=by
 unfold span;rw [List.length_append];have:=vput_len10 h;omega
theorem SpPut_ok {s:List UInt8} (h:s.length≤1000000000):SpPut_F s=some (span s):=by
 unfold SpPut_F
 rw [u64wrap (by omega) (by omega),VPut_ok (by omega),Option.bind_some,chk_pos]
 ·rfl
 ·have:=vput_len10 (n:=s.length) (by omega);omega
theorem SpTake_ok {s r:List UInt8} (h:(span s++r).length≤1000000000):SpTake_F (span s++r) ((span s++r).length:Nat)=some (s,((span s).length:Int),0):=by
 have hs:s.length≤1000000000:=by rw [List.length_append] at h;have:=span_len s;omega
 have hL:(span s).length=(vput s.length).length+s.length:=by unfold span;rw [List.length_append]
 have ht:VTake_F (span s++r)=some ((s.length:Int),((vput s.length).length:Int),0):=by
  unfold span at h ⊢
  rw [List.append_assoc] at h ⊢
  exact VTake_ok (by omega) _ (by omega)
 unfold SpTake_F
 rw [ht]
 simp only [Option.bind_some]
 rw [List.length_append] at h ⊢
 have hv:=vput_len10 (n:=s.length) (by omega)
 rw [show ((0:Int) != 0)=false from rfl,cond_false,Int.max_eq_left (by omega),u64wrap (by omega) (by omega),cDF (by omega),w64 (x:=(((span s).length+r.length:Nat):Int)-_) (by omega) (by omega),u64wrap (by omega) (by omega),cDF (by omega)]
 rw [w64 (x:=((s.length:Nat):Int)) (by omega) (by omega),w64 (x:=(((vput s.length).length:Nat):Int)+_) (by omega) (by omega),chk_pos (by omega)]
 rw [Int.toNat_natCast,show (((vput s.length).length:Int)+(s.length:Int)).toNat-(vput s.length).length=s.length by omega]
 have e1:(span s++r).drop (vput s.length).length=s++r:=by unfold span;rw [List.append_assoc,List.drop_left]
 rw [e1,List.take_left]
 congr 3
 omega

theorem text_ok {s r:List UInt8} (h:(span s++r).length≤1000000000):textF (span s++r)=some (.ok (s,r)):=by
 unfold textF
 rw [SpTake_ok h,Option.bind_some]
 simp only []
 rw [if_neg (by decide),if_neg (by decide),chk_pos (by rw [List.length_append];omega),Int.toNat_natCast,List.drop_left]

theorem KPut_ok {t w:Int} (h1:1≤t) (h2:t≤255) (hw:w=0∨w=1):KPut_F t w=some (vput (2*t+w).toNat,0):=by
 unfold KPut_F KTagged_F KKnown_F
 rw [cDT h1,Option.bind_some,Option.bind_some,decide_eq_true h2]
 simp only [Bool.not_true,cond_false]
 have e:(cond (w == 0) (some true) (some (w == 1)):Option Bool)=some true:=by rcases hw with rfl|rfl<;>rfl
 rw [e]
 simp only [Option.bind_some,Bool.not_true,cond_false]
 rw [w64 (x:=2*t) (by omega) (by omega),w64 (by omega) (by omega),u64wrap (by omega) (by omega),show (2*t+w)=(((2*t+w).toNat:Nat):Int) by omega,VPut_ok (by omega)]
 simp only [Option.bind_some,Int.toNat_natCast]
theorem KTake_ok {t w:Int} (h1:1≤t) (h2:t≤255) (hw:w=0∨w=1) (r:List UInt8) (hl:(vput (2*t+w).toNat++r).length≤1000000000) :
  KTake_F (vput (2*t+w).toNat++r)=some (t,w,((vput (2*t+w).toNat).length:Int),0):=by
 unfold KTake_F
 rw [VTake_ok (by omega) r (by omega),Option.bind_some]
 simp only []
 have e1:Int.tdiv (((2*t+w).toNat:Nat):Int) 2=t:=by rw [Int.tdiv_eq_ediv_of_nonneg (by omega)];omega
 have e2:Int.tmod (((2*t+w).toNat:Nat):Int) 2=w:=by rw [Int.tmod_eq_emod_of_nonneg (by omega)];omega
 rw [e1,e2,show ((0:Int) != 0)=false from rfl,cond_false,chk_pos (by decide),chk_pos (by decide),chk_pos (by decide),chk_pos (by decide),u64wrap (by omega) (by omega),cDF (by omega),Option.bind_some,beq_eq_false_iff_ne.2 (by omega),cond_false,w64 (by omega) (by omega),w64 (by omega) (by omega)]

theorem key_ok (l:List Dcl) (nm:List UInt8) {t w:Int} (h1:1≤t) (h2:t≤255) (hw:w=0∨w=1) (r:List UInt8) (hl:(vput (2*t+w).toNat++r).length≤1000000000) :
  keyF l nm (vput (2*t+w).toNat++r)=some (.ok ⟨t,w,fldJ (rowsU l nm) t,hasJ (rowsU l nm) t,r⟩):=by
 unfold keyF
 rw [KTake_ok h1 h2 hw r hl,Option.bind_some]
 simp only []
 rw [if_neg (by decide),DRow_F2,Option.bind_some,chk_pos (by rw [List.length_append];omega),Int.toNat_natCast,List.drop_left]

theorem skip_num {n:Nat} (hn:n<18446744073709551616) (r:List UInt8) (h:(vput n++r).length≤1000000000):KSkip_F (vput n++r) 0=some (((vput n).length:Int),0):=by
 unfold KSkip_F
 rw [show ((0:Int) == 0)=true from rfl,cond_true,VTake_ok hn r (by omega)];rfl
theorem skip_text (s r:List UInt8) (h:(span s++r).length≤1000000000):KSkip_F (span s++r) 1=some (((span s).length:Int),0):=by
 unfold KSkip_F
 rw [show ((1:Int) == 0)=false from rfl,cond_false,show ((1:Int) == 1)=true from rfl,cond_true,SpTake_ok h];rfl
end Go.Proofs

namespace Go.Proofs
open Go.Sy Go.Lib

structure Sch (l:List Dcl):Prop where
 ty:∀ nm f,f∈rowsU l nm→kindL l nm≠3→TyOK l false f.ty
 rng:∀ nm f,f∈rowsU l nm→kindL l nm≠3→1≤f.tag∧f.tag≤255
 enm:∀ nm f,f∈rowsU l nm→kindL l nm=3→0≤f.tag∧f.tag≤9999
 pw:∀ nm,(rowsU l nm).Pairwise (fun a b=>a.tag<b.tag)
 len:∀ nm,(rowsU l nm).length≤1000

theorem has_row {R:List Fld} {g:Int} (h:hasJ R g=true):fldJ R g∈R∧(fldJ R g).tag=g:=by
 unfold hasJ at h
 unfold fldJ
 obtain ⟨f,hf⟩:=Option.isSome_iff_exists.1 h
 rw [hf]
 exact ⟨List.mem_of_find?_eq_some hf,by simpa using List.find?_some hf⟩
theorem row_has {R:List Fld} (hp:R.Pairwise (fun a b=>a.tag<b.tag)) {f:Fld} (hf:f∈R):hasJ R f.tag=true∧fldJ R f.tag=f:=by
 have:R.find? (fun x=>x.tag == f.tag)=some f:=by
  induction R with
  | nil=>cases hf
  | cons x R ih =>
   obtain ⟨p1,p2⟩:=List.pairwise_cons.1 hp
   rcases List.mem_cons.1 hf with rfl|hf
   ·simp
   ·have:=p1 f hf
    rw [List.find?_cons_of_neg (by simp;omega)]
    exact ih p2 hf
 unfold hasJ fldJ
 rw [this];exact ⟨rfl,rfl⟩

def strip (t:Ty):Ty:=if t.kind=9 then t.of.getD 0 default else t
noncomputable def wireT (l:List Dcl) (t:Ty):Int:=if (strip t).kind=1∨(strip t).kind=2∨(strip t).kind=3∨((strip t).kind=6∧kindL l (strip t).name=3) then 0 else 1
theorem wire01 (l:List Dcl) (t:Ty):wireT l t=0∨wireT l t=1:=by unfold wireT;split<;>simp
theorem strip_ne {t:Ty} (h:t.kind≠9):strip t=t:=if_neg h
theorem arity_kind {k:Int} {n:Nat} (h:(n:Int)=arityL k):(k=1∨k=2∨k=3∨k=4∨k=5∨k=6)∧n=0∨(k=7∨k=9)∧n=1∨k=8∧n=2:=by
 by_cases h1:k=1∨k=2∨k=3∨k=4∨k=5∨k=6
 ·left
  rcases h1 with rfl|rfl|rfl|rfl|rfl|rfl<;>exact ⟨by omega,by have:(n:Int)=0:=h;omega⟩
 by_cases h2:k=7∨k=9
 ·right;left
  rcases h2 with rfl|rfl<;>exact ⟨by omega,by have:(n:Int)=1:=h;omega⟩
 by_cases h3:k=8
 ·right;right
  subst h3
  exact ⟨rfl,by have:(n:Int)=2:=h;omega⟩
 exfalso
 have e:arityL k=-1:=by
  unfold arityL Arity_F
  rw [beq_eq_false_iff_ne.2 (show k≠1 by omega),beq_eq_false_iff_ne.2 (show k≠2 by omega),beq_eq_false_iff_ne.2 (show k≠3 by omega),beq_eq_false_iff_ne.2 (show k≠4 by omega),beq_eq_false_iff_ne.2 (show k≠5 by omega),beq_eq_false_iff_ne.2 (show k≠6 by omega),beq_eq_false_iff_ne.2 (show k≠7 by omega),beq_eq_false_iff_ne.2 (show k≠8 by omega),beq_eq_false_iff_ne.2 (show k≠9 by omega)]
  rfl
 omega
structure InOK (l:List Dcl) (u:Ty):Prop where
 kind:1≤u.kind∧u.kind≤8
 len:(u.kind=7→u.of.length=1)∧(u.kind=8→u.of.length=2)
 six:u.kind=6→kindL l u.name=1∨kindL l u.name=2∨kindL l u.name=3
 key:u.kind=8→KeyOK l (u.of.getD 0 default)
 sub:∀ i,i<u.of.length→TyOK l true (u.of.getD i default)
theorem in_ok {l:List Dcl} {b:Bool} {t:Ty} (h:TyOK l b t) (h9:t.kind≠9):InOK l t:=by
 obtain ⟨h1,h2,h3,h4,h5,h6⟩:=h
 have:=arity_kind h1
 exact ⟨by omega,by omega,h3,h5,h6⟩
theorem strip_ok {l:List Dcl} {b:Bool} {t:Ty} (h:TyOK l b t):InOK l (strip t)∧(t.kind=9→t.of.length=1):=by
 by_cases h9:t.kind=9
 ·obtain ⟨h1,h2,h3,h4,h5,h6⟩:=h
  have:=arity_kind h1
  have h7:=h6 0 (by omega)
  have e:strip t=t.of.getD 0 default:=if_pos h9
  rw [e]
  refine ⟨in_ok h7 (fun h=>?_),fun _=>by omega⟩
  obtain ⟨_,_,_,q,_,_⟩:=h7
  cases q h
 ·rw [strip_ne h9]
  exact ⟨in_ok h h9,fun h=>absurd h h9⟩
theorem inok_ty {l:List Dcl} {u:Ty} (h:InOK l u):u.kind≠9:=by have:=h.kind;omega
theorem wire_in (l:List Dcl) {u:Ty} (hk:1≤u.kind∧u.kind≤8) (n:Nat):DWire_X l (n+1) u=some (wireT l u):=by
 unfold wireT
 rw [strip_ne (by omega)]
 simp only [DWire_X,DWire_F,DKind_F]
 obtain h1|h1|h1|h1|h1|h1|h1|h1:u.kind=1∨u.kind=2∨u.kind=3∨u.kind=4∨u.kind=5∨u.kind=6∨u.kind=7∨u.kind=8:=by omega
 all_goals rw [h1]
 rotate_left 5
 ·by_cases hk3:kindL l u.name=3
  ·rw [hk3];rfl
  ·rw [if_neg (by omega)]
   show cond (kindL l u.name == 3) (some 0) (some 1)=_
   rw [beq_eq_false_iff_ne.2 hk3];rfl
 all_goals rfl
theorem wire_gen (l:List Dcl) {t:Ty} (h1:1≤(strip t).kind∧(strip t).kind≤8) (h2:t.kind=9→t.of.length=1) (n:Nat):DWire_X l (n+2) t=some (wireT l t):=by
 by_cases h9:t.kind=9
 ·have hs:strip t=t.of.getD 0 default:=if_pos h9
  have e:wireT l t=wireT l (t.of.getD 0 default):=by rw [← hs];unfold wireT;rw [strip_ne (t:=strip t) (by omega)]
  have hw:=wire_in l h1 n
  rw [hs] at hw
  rw [e]
  show DWire_F l (DWire_X l (n+1)) t=_
  simp only [DWire_F]
  rw [h9,h2 h9]
  simp only [show ((9:Int) == 1)=false from rfl,show ((9:Int) == 2)=false from rfl,show ((9:Int) == 3)=false from rfl,show ((9:Int) == 6)=false from rfl,show ((9:Int) == 9)=true from rfl,show (((1:Nat):Int) == 1)=true from rfl,cond_false,cond_true,Option.bind_some]
  show chk _ (Option.bind (DWire_X l (n+1) (t.of.getD (Int.toNat 0) default)) _)=_
  rw [chk_pos (by decide),show Int.toNat 0=0 from rfl,hw];rfl
 ·rw [strip_ne h9] at h1
  exact wire_in l h1 (n+1)
theorem wire_ok {l:List Dcl} {b:Bool} {t:Ty} (h:TyOK l b t) (n:Nat):DWire_X l (n+2) t=some (wireT l t):=wire_gen l (strip_ok h).1.kind (strip_ok h).2 n

def keysUp (xs:List Val):Prop:=∀ i,2*i+2<xs.length→∃ c,CmpV_F (xs.getD (2*i) default) (xs.getD (2*i+2) default)=some c∧c<0

inductive Fit (l:List Dcl):Nat→Ty→Val→Prop
 | bool {d:Nat} {t:Ty} {n:Int}:(strip t).kind=1→0≤n→n≤1→Fit l (d+1) t ⟨1,n,[],[],[]⟩
 | num {d:Nat} {t:Ty} {n:Int}:(strip t).kind=2∨(strip t).kind=3→-9223372036854775808≤n→n≤9223372036854775807→Fit l (d+1) t ⟨(strip t).kind,n,[],[],[]⟩
 | text {d:Nat} {t:Ty} {s:List UInt8}:(strip t).kind=4∨(strip t).kind=5→((strip t).kind=4→badL s<0)→Fit l (d+1) t ⟨(strip t).kind,0,s,[],[]⟩
 | list {d:Nat} {t:Ty} {xs:List Val}:(strip t).kind=7→(∀ i,i<xs.length→Fit l d ((strip t).of.getD 0 default) (xs.getD i default))→Fit l (d+1) t ⟨7,0,[],[],xs⟩
 | map {d:Nat} {t:Ty} {xs:List Val}:(strip t).kind=8→xs.length % 2=0→keysUp xs→(∀ i,i<xs.length→Fit l d ((strip t).of.getD (i % 2) default) (xs.getD i default))→Fit l (d+1) t ⟨8,0,[],[],xs⟩
 | enum {d:Nat} {t:Ty} {n:Int}:(strip t).kind=6→kindL l (strip t).name=3→0≤n→n≤9999→hasJ (rowsU l (strip t).name) n=true→Fit l (d+1) t ⟨6,n,[],[],[]⟩
 | union {d:Nat} {t:Ty} {g:Int} {x:Val}:(strip t).kind=6→kindL l (strip t).name=2→hasJ (rowsU l (strip t).name) g=true→Fit l d (fldJ (rowsU l (strip t).name) g).ty x→Fit l (d+1) t ⟨10,0,[],[g],[x]⟩
 | struct {d:Nat} {t:Ty} {gs:List Int} {xs:List Val}:(strip t).kind=6→kindL l (strip t).name=1→gs.length=xs.length→gs.Pairwise (· < ·)→(∀ i,i<gs.length→hasJ (rowsU l (strip t).name) (gs.getD i default)=true) →
   (∀ i,i<gs.length→Fit l d (fldJ (rowsU l (strip t).name) (gs.getD i default)).ty (xs.getD i default))→whGo gs (rowsU l (strip t).name) 0=true→Fit l (d+1) t ⟨9,0,[],gs,xs⟩

def catR (f:Nat→List UInt8):Nat→Nat→List UInt8
 | _,0=>[]
 | i,n+1=>f i++catR f (i+1) n
theorem catR_len (f:Nat→List UInt8):∀ (n i j:Nat),i≤j→j<i+n→(f j).length≤(catR f i n).length
 | 0,i,j,h1,h2=>by omega
 | n+1,i,j,h1,h2=>by
  simp only [catR]
  rw [List.length_append]
  by_cases hj:j=i
  ·subst hj;omega
  ·have:=catR_len f n (i+1) j (by omega) (by omega)
   omega
theorem catR_min (f:Nat→List UInt8):∀ (n i:Nat),(∀ j,i≤j→j<i+n→1≤(f j).length)→n≤(catR f i n).length
 | 0,i,h=>Nat.zero_le _
 | n+1,i,h=>by
  simp only [catR]
  rw [List.length_append]
  have:=h i (Nat.le_refl _) (by omega)
  have:=catR_min f n (i+1) (fun j h1 h2=>h j (by omega) (by omega))
  omega

noncomputable def encC (l:List Dcl) (rec:Ty→Val→List UInt8) (t:Ty) (v:Val):List UInt8:=if wireT l t=0 then rec t v else span (rec t v)
noncomputable def encR (l:List Dcl) (rec:Ty→Val→List UInt8) (nm:List UInt8) (v:Val) (i:Nat):List UInt8 :=
 vput (2*v.tags.getD i default+wireT l (fldJ (rowsU l nm) (v.tags.getD i default)).ty).toNat++encC l rec (fldJ (rowsU l nm) (v.tags.getD i default)).ty (v.items.getD i default)
noncomputable def encM (l:List Dcl) (rec:Ty→Val→List UInt8) (u:Ty) (v:Val) (i:Nat):List UInt8:=encC l rec (u.of.getD (i % u.of.length) default) (v.items.getD i default)
noncomputable def encF (l:List Dcl) (rec:Ty→Val→List UInt8) (t:Ty) (v:Val):List UInt8 :=
 if (strip t).kind=4∨(strip t).kind=5 then v.text
 else if (strip t).kind=7∨(strip t).kind=8 then catR (encM l rec (strip t) v) 0 v.items.length
 else if (strip t).kind=6∧kindL l (strip t).name≠3 then catR (encR l rec (strip t).name v) 0 v.tags.length
 else if v.kind=2 then vput (zig v.num) else vput (usg v.num)
noncomputable def encI (l:List Dcl):Nat→Ty→Val→List UInt8
 | 0=>fun _ _=>[]
 | d+1=>encF l (encI l d)

theorem encC_len (l:List Dcl) (rec:Ty→Val→List UInt8) (t:Ty) (v:Val):(rec t v).length≤(encC l rec t v).length:=by
 unfold encC;split
 ·exact Nat.le_refl _
 ·have:=span_len (rec t v);omega

theorem efGo_ok {l:List Dcl} {rec:Ty→Val→Option (List UInt8)} {nm:List UInt8} {v:Val} {f:Nat→List UInt8}:∀ (n i:Nat) (acc:List UInt8),(∀ j,i≤j→j<i+n→efOne l rec nm (v.tags.getD j default) (v.items.getD j default)=some (f j))→i+n≤v.items.length→acc.length+(catR f i n).length≤140737488355328 →
  efGo l rec nm v n i acc=some (acc++catR f i n)
 | 0,i,acc,_,_,_=>by simp only [efGo,catR,List.append_nil]
 | n+1,i,acc,h,hi,hL=>by
  simp only [catR,List.length_append] at hL
  simp only [efGo]
  rw [chk_pos (by omega),h i (Nat.le_refl _) (by omega),Option.bind_some,chk_pos (by omega),efGo_ok n (i+1) (acc++f i) (fun j h1 h2=>h j (by omega) (by omega)) (by omega) (by rw [List.length_append];omega)]
  simp only [catR,List.append_assoc]
theorem eiGo_ok {l:List Dcl} {rec:Ty→Val→Option (List UInt8)} {t:Ty} {v:Val} {f:Nat→List UInt8}:∀ (n i:Nat) (acc:List UInt8),(∀ j,i≤j→j<i+n→EContent_F l rec (t.of.getD (j % t.of.length) default) (v.items.getD j default)=some (f j))→acc.length+(catR f i n).length≤140737488355328 →
  eiGo l rec t v n i acc=some (acc++catR f i n)
 | 0,i,acc,_,_=>by simp only [eiGo,catR,List.append_nil]
 | n+1,i,acc,h,hL=>by
  simp only [catR,List.length_append] at hL
  simp only [eiGo]
  rw [h i (Nat.le_refl _) (by omega),Option.bind_some,chk_pos (by omega),eiGo_ok n (i+1) (acc++f i) (fun j h1 h2=>h j (by omega) (by omega)) (by rw [List.length_append];omega)]
  simp only [catR,List.append_assoc]
theorem econt_ok {l:List Dcl} {rec:Ty→Val→Option (List UInt8)} {b:Bool} {t:Ty} {v:Val} {g:Ty→Val→List UInt8} (hT:TyOK l b t) (h:rec t v=some (g t v)) (hL:(g t v).length≤1000000000):EContent_F l rec t v=some (encC l g t v):=by
 unfold EContent_F encC
 rw [h,Option.bind_some,show FU=99998+2 from rfl,wire_ok hT,Option.bind_some]
 rcases wire01 l t with e|e
 ·rw [e];rfl
 ·rw [e,show ((1:Int) == 0)=false from rfl,cond_false,SpPut_ok hL];rfl

theorem fit_pos {l:List Dcl} {d:Nat} {t:Ty} {v:Val} (h:Fit l d t v):1≤d:=by cases h<;>omega

theorem num_pos {l:List Dcl} {d:Nat} {t:Ty} {v:Val} (h:wireT l t=0):1≤(encI l (d+1) t v).length:=by
 unfold wireT at h
 split at h
 ·rename_i hc
  simp only [encI,encF]
  rw [if_neg (by omega),if_neg (by omega),if_neg (by omega)]
  split<;>exact vput_pos _
 ·cases h
theorem cont_pos {l:List Dcl} {d:Nat} {t:Ty} {v:Val} (hd:1≤d):1≤(encC l (encI l d) t v).length:=by
 obtain ⟨d,rfl⟩:∃ k,d=k+1:=⟨d-1,by omega⟩
 unfold encC
 split
 ·rename_i h;exact num_pos h
 ·have:=span_len (encI l (d+1) t v);omega
theorem row_ty {l:List Dcl} (hS:Sch l) {nm:List UInt8} {g:Int} (hk:kindL l nm≠3) (h:hasJ (rowsU l nm) g=true):TyOK l false (fldJ (rowsU l nm) g).ty∧1≤g∧g≤255:=by
 obtain ⟨h1,h2⟩:=has_row h
 have:=hS.rng nm _ h1 hk
 exact ⟨hS.ty nm _ h1 hk,by omega,by omega⟩

theorem many_enc {l:List Dcl} {d m:Nat} {u:Ty} {v:Val} (hI:InOK l u) (hk:u.kind=7∨u.kind=8) (IH:∀ (b:Bool) (t:Ty) (v:Val),TyOK l b t→Fit l d t v→(encI l d t v).length≤1000000→EInside_X l m t v=some (encI l d t v))
  (hx:∀ i,i<v.items.length→Fit l d (u.of.getD (i % u.of.length) default) (v.items.getD i default)) (hL:(catR (encM l (encI l d) u v) 0 v.items.length).length≤1000000) :
  EInside_X l (m+1) u v=some (catR (encM l (encI l d) u v) 0 v.items.length):=by
 have hl:0<u.of.length:=by have:=hI.len;omega
 have hone:∀ j,0≤j→j<0+v.items.length→EContent_F l (EInside_X l m) (u.of.getD (j % u.of.length) default) (v.items.getD j default)=some (encM l (encI l d) u v j):=by
  intro j _ hj
  have hlen:=catR_len (encM l (encI l d) u v) v.items.length 0 j (Nat.zero_le _) hj
  have hin:(encI l d (u.of.getD (j % u.of.length) default) (v.items.getD j default)).length≤(encM l (encI l d) u v j).length:=encC_len l (encI l d) _ _
  have hsub:=hI.sub (j % u.of.length) (Nat.mod_lt _ hl)
  exact econt_ok hsub (IH true _ _ hsub (hx j (by omega)) (by omega)) (by omega)
 have hmin:v.items.length≤(catR (encM l (encI l d) u v) 0 v.items.length).length:=catR_min _ _ _ (fun j h1 h2=>cont_pos (fit_pos (hx j (by omega))))
 simp only [EInside_X,EInside_F]
 rw [if_neg (inok_ty hI),if_neg (by omega),if_pos hk,chk_pos ⟨by omega,by omega⟩,eiGo_ok v.items.length 0 [] hone (by simp only [List.length_nil];omega),List.nil_append]
theorem rows_enc {l:List Dcl} (hS:Sch l) {d m:Nat} {u:Ty} {v:Val} (hI:InOK l u) (hk:u.kind=6) (hk3:kindL l u.name≠3) (IH:∀ (b:Bool) (t:Ty) (v:Val),TyOK l b t→Fit l d t v→(encI l d t v).length≤1000000→EInside_X l m t v=some (encI l d t v))
  (hlen:v.tags.length=v.items.length) (hh:∀ i,i<v.tags.length→hasJ (rowsU l u.name) (v.tags.getD i default)=true)
  (hx:∀ i,i<v.tags.length→Fit l d (fldJ (rowsU l u.name) (v.tags.getD i default)).ty (v.items.getD i default)) (hL:(catR (encR l (encI l d) u.name v) 0 v.tags.length).length≤1000000) :
  EInside_X l (m+1) u v=some (catR (encR l (encI l d) u.name v) 0 v.tags.length):=by
 have hone:∀ j,0≤j→j<0+v.tags.length→efOne l (EInside_X l m) u.name (v.tags.getD j default) (v.items.getD j default)=some (encR l (encI l d) u.name v j):=by
  intro j _ hj
  have hj':j<v.tags.length:=by omega
  have hlen:=catR_len (encR l (encI l d) u.name v) v.tags.length 0 j (Nat.zero_le _) hj
  obtain ⟨hT,hg1,hg2⟩:=row_ty hS hk3 (hh j hj')
  have hin:(encI l d (fldJ (rowsU l u.name) (v.tags.getD j default)).ty (v.items.getD j default)).length≤(encC l (encI l d) (fldJ (rowsU l u.name) (v.tags.getD j default)).ty (v.items.getD j default)).length:=encC_len l (encI l d) _ _
  have hin2:(encR l (encI l d) u.name v j).length=(vput (2*v.tags.getD j default+wireT l (fldJ (rowsU l u.name) (v.tags.getD j default)).ty).toNat).length+(encC l (encI l d) (fldJ (rowsU l u.name) (v.tags.getD j default)).ty (v.items.getD j default)).length:=by unfold encR;rw [List.length_append]
  unfold efOne
  rw [DRow_F2,Option.bind_some]
  simp only []
  rw [show FU=99998+2 from rfl,wire_ok hT,Option.bind_some,KPut_ok hg1 hg2 (wire01 l _),Option.bind_some,econt_ok hT (IH false _ _ hT (hx j hj') (by omega)) (by omega),Option.bind_some,chk_pos (by simp only [];omega)]
  rfl
 have hmin:v.tags.length≤(catR (encR l (encI l d) u.name v) 0 v.tags.length).length:=catR_min _ _ _ (fun j h1 h2=>by unfold encR;rw [List.length_append];have:=vput_pos (2*v.tags.getD j default+wireT l (fldJ (rowsU l u.name) (v.tags.getD j default)).ty).toNat;omega)
 simp only [EInside_X,EInside_F]
 rw [if_neg (inok_ty hI),if_neg (by omega),if_neg (by omega),if_pos hk,DKind_F,Option.bind_some,if_pos hk3,EFields_F,chk_pos (by omega),efGo_ok v.tags.length 0 [] hone (by omega) (by simp only [List.length_nil];omega),List.nil_append]

theorem enc_ok {l:List Dcl} (hS:Sch l):∀ (d n:Nat) (b:Bool) (t:Ty) (v:Val),TyOK l b t→Fit l d t v→2*d≤n→(encI l d t v).length≤1000000→EInside_X l n t v=some (encI l d t v)
 | 0,n,b,t,v,hT,hF,hn,hL=>by cases hF
 | d+1,n,b,t,v,hT,hF,hn,hL=>by
  obtain ⟨hI,h9⟩:=strip_ok hT
  have core:∀ m,2*d+1≤m→EInside_X l m (strip t) v=some (encI l (d+1) t v):=by
   intro m hm
   obtain ⟨m,rfl⟩:∃ k,m=k+1:=⟨m-1,by omega⟩
   have IH:=fun (b:Bool) (t:Ty) (v:Val) (h1:TyOK l b t) (h2:Fit l d t v) (h3:(encI l d t v).length≤1000000)=>enc_ok hS d m b t v h1 h2 (by omega) h3
   generalize hu:strip t=u at *
   have hnum:u.kind≠4→u.kind≠5→u.kind≠7→u.kind≠8→(u.kind=6→kindL l u.name=3)→ENumber_F v=some (encI l (d+1) t v)→EInside_X l (m+1) u v=some (encI l (d+1) t v):=by
    intro a1 a2 a3 a4 a5 a6
    simp only [EInside_X,EInside_F]
    rw [if_neg (inok_ty hI),if_neg (by omega),if_neg (by omega)]
    by_cases h6:u.kind=6
    ·rw [if_pos h6,DKind_F,Option.bind_some,if_neg (by have:=a5 h6;omega)];exact a6
    ·rw [if_neg h6];exact a6
   cases hF with
   | bool h1 h2 h3 =>
    rw [hu] at h1
    refine hnum (by omega) (by omega) (by omega) (by omega) (by omega) ?_
    simp only [encI,encF]
    rw [hu,if_neg (by omega),if_neg (by omega),if_neg (by omega),if_neg (by decide)]
    unfold ENumber_F
    simp only []
    rw [show ((1:Int) == 2)=false from rfl,cond_false,u64_usg (by omega) (by omega),VPut_ok (usg_lt (by omega) (by omega))];rfl
   | num h1 h2 h3 =>
    rw [hu] at h1
    refine hnum (by omega) (by omega) (by omega) (by omega) (by omega) ?_
    simp only [encI,encF]
    rw [hu,if_neg (by omega),if_neg (by omega),if_neg (by omega)]
    unfold ENumber_F
    simp only []
    by_cases h4:u.kind=2
    ·rw [if_pos h4,beq_iff_eq.2 h4,cond_true,VPutInt_ok h2 h3];rfl
    ·rw [if_neg h4,beq_eq_false_iff_ne.2 h4,cond_false,u64_usg h2 h3,VPut_ok (usg_lt h2 h3)];rfl
   | text h1 h2 =>
    rw [hu] at h1
    simp only [EInside_X,EInside_F,encI,encF]
    rw [hu,if_neg (inok_ty hI),if_pos h1,if_pos h1]
   | list h1 h2 =>
    rw [hu] at h1 h2
    have hl1:=hI.len.1 h1
    simp only [encI,encF] at hL ⊢
    rw [hu,if_neg (by omega),if_pos (.inl h1)] at hL ⊢
    exact many_enc hI (.inl h1) IH (fun i hi=>by rw [hl1,Nat.mod_one];exact h2 i hi) hL
   | map h1 h2 h3 h4 =>
    rw [hu] at h1 h4
    have hl2:=hI.len.2 h1
    simp only [encI,encF] at hL ⊢
    rw [hu,if_neg (by omega),if_pos (.inr h1)] at hL ⊢
    exact many_enc hI (.inr h1) IH (fun i hi=>by rw [hl2];exact h4 i hi) hL
   | enum h1 h2 h3 h4 h5 =>
    rw [hu] at h1 h2
    refine hnum (by omega) (by omega) (by omega) (by omega) (fun _=>h2) ?_
    simp only [encI,encF]
    rw [hu,if_neg (by omega),if_neg (by omega),if_neg (by omega),if_neg (by decide)]
    unfold ENumber_F
    simp only []
    rw [show ((6:Int) == 2)=false from rfl,cond_false,u64_usg (by omega) (by omega),VPut_ok (usg_lt (by omega) (by omega))];rfl
   | union h1 h2 h3 h4 =>
    rename_i g x
    rw [hu] at h1 h2 h3 h4
    simp only [encI,encF] at hL ⊢
    rw [hu,if_neg (by omega),if_neg (by omega),if_pos ⟨h1,by omega⟩] at hL ⊢
    have e0:∀ i,i<1→i=0:=fun i hi=>by omega
    exact rows_enc hS hI h1 (by omega) IH rfl (fun i hi=>by obtain rfl:=e0 i hi;exact h3) (fun i hi=>by obtain rfl:=e0 i hi;exact h4) hL
   | struct h1 h2 h3 h4 h5 h6 h7 =>
    rw [hu] at h1 h2 h5 h6
    simp only [encI,encF] at hL ⊢
    rw [hu,if_neg (by omega),if_neg (by omega),if_pos ⟨h1,by omega⟩] at hL ⊢
    exact rows_enc hS hI h1 (by omega) IH h3 h5 h6 hL
  by_cases hk:t.kind=9
  ·obtain ⟨n,rfl⟩:∃ k,n=k+1:=⟨n-1,by omega⟩
   simp only [EInside_X,EInside_F]
   rw [if_pos hk,chk_pos (by have:=h9 hk;omega)]
   have:=core n (by omega)
   rw [show strip t=t.of.getD 0 default from if_pos hk] at this
   exact this
  ·have:=core n (by omega)
   rw [strip_ne hk] at this
   exact this
end Go.Proofs

namespace Go.Proofs
open Go.Sy Go.Lib

mutual
def Val.size:Val→Nat
 | ⟨_,_,t,_,l⟩=>8+t.length+Val.sizes l
def Val.sizes:List Val→Nat
 | []=>0
 | x::xs=>x.size+Val.sizes xs
end
theorem size_eq (v:Val):v.size=8+v.text.length+Val.sizes v.items:=by cases v;rfl

def seg {α:Type} (p:Nat→α):Nat→Nat→List α
 | _,0=>[]
 | i,k+1=>p i::seg p (i+1) k
theorem seg_len {α:Type} (p:Nat→α):∀ (k i:Nat),(seg p i k).length=k
 | 0,_=>rfl
 | k+1,i=>by simp only [seg,List.length_cons,seg_len p k]
theorem seg_at {α:Type} [Inhabited α] (p:Nat→α):∀ (k i j:Nat),j<k→(seg p i k).getD j default=p (i+j)
 | 0,_,_,h=>by omega
 | k+1,i,0,_=>rfl
 | k+1,i,j+1,h=>by
  simp only [seg,List.getD_cons_succ]
  rw [seg_at p k (i+1) j (by omega),show i+1+j=i+(j+1) by omega]
theorem seg_congr {α:Type} {p q:Nat→α}:∀ (k i:Nat),(∀ j,i≤j→j<i+k→p j=q j)→seg p i k=seg q i k
 | 0,_,_=>rfl
 | k+1,i,h=>by
  simp only [seg]
  rw [h i (Nat.le_refl _) (by omega),seg_congr k (i+1) (fun j h1 h2=>h j (by omega) (by omega))]
theorem seg_self {α:Type} [Inhabited α] (xs:List α):∀ (k i:Nat),i+k=xs.length→seg (fun j=>xs.getD j default) i k=xs.drop i
 | 0,i,h=>by rw [List.drop_of_length_le (by omega)];rfl
 | k+1,i,h=>by
  simp only [seg]
  rw [seg_self xs k (i+1) (by omega),List.drop_eq_getElem_cons (i:=i) (by omega),List.getD_eq_getElem?_getD,List.getElem?_eq_getElem (by omega)]
  rfl
theorem seg_full {α:Type} [Inhabited α] (xs:List α):seg (fun j=>xs.getD j default) 0 xs.length=xs:=by
 rw [seg_self xs xs.length 0 (by omega),List.drop_zero]
theorem seg_snoc {α:Type} (p:Nat→α):∀ (k i:Nat),seg p i (k+1)=seg p i k++[p (i+k)]
 | 0,i=>rfl
 | k+1,i=>by
  rw [seg,seg_snoc p k (i+1),seg,List.cons_append,show i+1+k=i+(k+1) by omega]
theorem sizes_le (p q:Nat→Val):∀ (k i:Nat),(∀ j,i≤j→j<i+k→(p j).size≤(q j).size)→Val.sizes (seg p i k)≤Val.sizes (seg q i k)
 | 0,_,_=>Nat.le_refl _
 | k+1,i,h=>by
  simp only [seg,Val.sizes]
  have:=h i (Nat.le_refl _) (by omega)
  have:=sizes_le p q k (i+1) (fun j h1 h2=>h j (by omega) (by omega))
  omega
theorem size_at {l:List Val} {i:Nat} (h:i<l.length):(l.getD i default).size≤Val.sizes l:=by
 induction l generalizing i with
 | nil=>exact absurd h (Nat.not_lt_zero _)
 | cons x xs ih =>
  cases i with
  | zero=>simp only [List.getD_cons_zero,Val.sizes];omega
  | succ i =>
   simp only [List.getD_cons_succ,Val.sizes]
   have:=ih (i:=i) (by simpa using h)
   omega

theorem pay_eq {most made k:Int} (h1:0≤made) (h2:0≤k) (h3:made+k≤4611686018427387904):payF most made k=if max most 0<made+k then .error 13 else .ok (made+k):=by
 unfold payF
 rw [w64 (by omega) (by omega)]

def whD:List Int→List Fld→Bool
 | _,[]=>true
 | [],f::fs=>if f.ty.kind≠9 then false else whD [] fs
 | g::gs,f::fs=>if g=f.tag then whD gs fs else if f.ty.kind≠9 then false else whD (g::gs) fs
theorem whGo_eq (tg:List Int):∀ (R:List Fld) (n:Nat),whGo tg R n=whD (tg.drop n) R
 | [],n=>by simp only [whGo];cases tg.drop n<;>rfl
 | f::R,n=>by
  simp only [whGo]
  by_cases hn:n<tg.length
  ·have hd:tg.drop n=tg.getD n default::tg.drop (n+1):=by rw [List.drop_eq_getElem_cons hn,List.getD_eq_getElem?_getD,List.getElem?_eq_getElem hn];rfl
   rw [hd]
   simp only [whD]
   by_cases he:tg.getD n default=f.tag
   ·rw [if_pos ⟨hn,he⟩,if_pos he,whGo_eq tg R (n+1)]
   ·rw [if_neg (fun h=>he h.2),if_neg he,whGo_eq tg R n,hd]
  ·have hd:tg.drop n=[]:=List.drop_of_length_le (by omega)
   rw [if_neg (fun h=>hn h.1),whGo_eq tg R n,hd]
   simp only [whD]
theorem whD_iff:∀ (R:List Fld) (tg:List Int),R.Pairwise (fun a b=>a.tag<b.tag)→tg.Pairwise (· < ·)→(∀ g,g∈tg→∃ f,f∈R∧f.tag=g)→(whD tg R=true↔∀ f,f∈R→f.ty.kind≠9→f.tag∈tg)
 | [],tg,_,_,_=>by
  have:whD tg []=true:=by cases tg<;>rfl
  exact ⟨fun _ f h=>(by cases h),fun _=>this⟩
 | f::R,[],hR,_,_=>by
  obtain ⟨p1,p2⟩:=List.pairwise_cons.1 hR
  simp only [whD]
  have ih:=whD_iff R [] p2 .nil (fun g hg=>by cases hg)
  by_cases hk:f.ty.kind≠9
  ·rw [if_pos hk]
   exact ⟨fun h=>(by cases h),fun h=>by have:=h f (by simp) hk;cases this⟩
  ·rw [if_neg hk,ih]
   constructor
   ·intro h f' hf' hk'
    rcases List.mem_cons.1 hf' with rfl|hf'
    ·exact absurd hk' hk
    ·exact h f' hf' hk'
   ·intro h f' hf' hk'
    exact h f' (List.mem_cons_of_mem _ hf') hk'
 | f::R,g::tg,hR,hg,hs=>by
  obtain ⟨p1,p2⟩:=List.pairwise_cons.1 hR
  obtain ⟨g1,g2⟩:=List.pairwise_cons.1 hg
  simp only [whD]
  by_cases he:g=f.tag
  ·rw [if_pos he]
   have ih:=whD_iff R tg p2 g2 (fun x hx=>by
    obtain ⟨y,hy,hyt⟩:=hs x (List.mem_cons_of_mem _ hx)
    rcases List.mem_cons.1 hy with rfl|hy
    ·have:=g1 x hx;omega
    ·exact ⟨y,hy,hyt⟩)
   rw [ih]
   constructor
   ·intro h f' hf' hk'
    rcases List.mem_cons.1 hf' with rfl|hf'
    ·rw [he];simp
    ·exact List.mem_cons_of_mem _ (h f' hf' hk')
   ·intro h f' hf' hk'
    rcases List.mem_cons.1 (h f' (List.mem_cons_of_mem _ hf') hk') with hx|hx
    ·have:=p1 f' hf';omega
    ·exact hx
  ·rw [if_neg he]
   have hlt:f.tag<g:=by
    obtain ⟨y,hy,hyt⟩:=hs g (by simp)
    rcases List.mem_cons.1 hy with rfl|hy
    ·exact absurd hyt.symm he
    ·have:=p1 y hy;omega
   have ih:=whD_iff R (g::tg) p2 hg (fun x hx=>by
    obtain ⟨y,hy,hyt⟩:=hs x hx
    rcases List.mem_cons.1 hy with rfl|hy
    ·rcases List.mem_cons.1 hx with rfl|hx
     ·exact absurd hyt.symm he
     ·have:=g1 x hx;omega
    ·exact ⟨y,hy,hyt⟩)
   by_cases hk:f.ty.kind≠9
   ·rw [if_pos hk]
    refine ⟨fun h=>(by cases h),fun h=>?_⟩
    rcases List.mem_cons.1 (h f (by simp) hk) with hx|hx
    ·exact absurd hx.symm he
    ·have:=g1 _ hx;omega
   ·rw [if_neg hk,ih]
    constructor
    ·intro h f' hf' hk'
     rcases List.mem_cons.1 hf' with rfl|hf'
     ·exact absurd hk' hk
     ·exact h f' hf' hk'
    ·intro h f' hf' hk'
     exact h f' (List.mem_cons_of_mem _ hf') hk'
theorem whGo_iff {R:List Fld} {tg:List Int} (hR:R.Pairwise (fun a b=>a.tag<b.tag)) (hg:tg.Pairwise (· < ·)) (hs:∀ g,g∈tg→hasJ R g=true):whGo tg R 0=true↔∀ f,f∈R→f.ty.kind≠9→f.tag∈tg:=by
 rw [whGo_eq,List.drop_zero]
 exact whD_iff R tg hR hg (fun g h=>⟨_,has_row (hs g h)⟩)
end Go.Proofs

namespace Go.Proofs
open Go.Sy Go.Lib

structure Cpt (l m:List Dcl):Prop where
 kind:∀ nm,kindL l nm≠0→kindL m nm=kindL l nm
 row:∀ nm g,kindL l nm≠0→hasJ (rowsU l nm) g=true→(hasJ (rowsU m nm) g=true∧(fldJ (rowsU m nm) g).ty=(fldJ (rowsU l nm) g).ty)∨(kindL l nm=1∧(fldJ (rowsU l nm) g).ty.kind=9∧hasJ (rowsU m nm) g=false)
 fresh:∀ nm f,kindL l nm=1→f∈rowsU m nm→hasJ (rowsU l nm) f.tag=false→f.ty.kind=9
def Full (l m:List Dcl):Prop:=∀ nm g,kindL l nm≠0→hasJ (rowsU l nm) g=true→hasJ (rowsU m nm) g=true

def resC (M made:Int) (v:Val) (rest:List UInt8):Except Int (Val×List UInt8×Int):=if M<made+(v.size:Int) then .error 13 else .ok (v,rest,made+(v.size:Int))
def resI (M made:Int) (v:Val):Except Int (Val×Int):=if M<made+((v.size:Int)-8) then .error 13 else .ok (v,made+((v.size:Int)-8))
def PieceOK (rec:DRec) (M B:Int) (t:Ty) (deep:Int) (f:List UInt8) (q p:Val):Prop :=
 1≤f.length∧p.size≤q.size∧∀ rest made,(f++rest).length≤1000000→0≤made→made+(q.size:Int)≤B→rec t (f++rest) deep made=some (resC M made p rest)

theorem listGo_ne {rec:DRec} {t:Ty} {deep:Int} {n:Nat} {s:List UInt8} {acc:List Val} {made:Int} (h:s≠[]):listGo rec t deep (n+1) s acc made=chk (0<t.of.length∧acc.length<1000000) (Option.bind (rec (t.of.getD 0 default) s (IntKind.i64.wrap (deep+1)) made) fun r=>match r with
   | .error e=>some (.error e)
   | .ok i=>listGo rec t deep n i.2.1 (acc++[i.1]) i.2.2):=by simp only [listGo];rw [if_neg h]<;>rfl
theorem pairsGo_ne {rec:DRec} {t:Ty} {deep:Int} {n:Nat} {s:List UInt8} {acc:List Val} {made:Int} (h:s≠[]):pairsGo rec t deep (n+1) s acc made=chk (1<t.of.length∧acc.length<1000000) (Option.bind (rec (t.of.getD 0 default) s (IntKind.i64.wrap (deep+1)) made) fun r=>match r with
   | .error e=>some (.error e)
   | .ok k=>Option.bind (keyAfter acc k.1) fun ok=>if ok=false then some (.error 9) else
    Option.bind (rec (t.of.getD 1 default) k.2.1 (IntKind.i64.wrap (deep+1)) k.2.2) fun r2=>match r2 with
     | .error e=>some (.error e)
     | .ok i=>pairsGo rec t deep n i.2.1 (acc++[k.1,i.1]) i.2.2):=by simp only [pairsGo];rw [if_neg h]<;>rfl
theorem fldGo_ne {l:List Dcl} {rec:DRec} {nm:List UInt8} {deep:Int} {n:Nat} {s:List UInt8} {last:Int} {tg:List Int} {it:List Val} {made:Int} (h:s≠[]):fldGo l rec nm deep (n+1) s last tg it made=Option.bind (keyF l nm s) fun r=>match r with
  | .error e=>some (.error e)
  | .ok k=>if k.tag≤last then some (.error 9) else if k.is=false then
    Option.bind (KSkip_F k.rest k.w) fun q=>if q.2≠0 then some (.error q.2) else chk (0≤q.1∧q.1≤(k.rest.length:Int)) (fldGo l rec nm deep n (k.rest.drop q.1.toNat) k.tag tg it made)
   else Option.bind (DWire_X l FU k.fld.ty) fun w=>if k.w≠w then some (.error 4) else
    Option.bind (rec k.fld.ty k.rest (IntKind.i64.wrap (deep+1)) made) fun r2=>match r2 with
     | .error e=>some (.error e)
     | .ok v=>chk (tg.length<1000000∧it.length<1000000) (fldGo l rec nm deep n v.2.1 k.tag (tg++[k.tag]) (it++[v.1]) v.2.2):=by simp only [fldGo];rw [if_neg h]<;>rfl
theorem seg_succ {α:Type} (p:Nat→α) (i k:Nat):seg p i (k+1)=p i::seg p (i+1) k:=rfl
theorem catR_succ (f:Nat→List UInt8) (i k:Nat):catR f i (k+1)=f i++catR f (i+1) k:=rfl
theorem sizes_cons (x:Val) (xs:List Val):Val.sizes (x::xs)=x.size+Val.sizes xs:=rfl

theorem listGo_back {rec:DRec} {M B:Int} {t:Ty} {deep deep':Int} (hd:IntKind.i64.wrap (deep+1)=deep') (ho:0<t.of.length) {f:Nat→List UInt8} {q p:Nat→Val}:∀ (k i n:Nat) (acc:List Val) (made:Int),
  (∀ j,i≤j→j<i+k→PieceOK rec M B (t.of.getD 0 default) deep' (f j) (q j) (p j))→(catR f i k).length<n→acc.length+(catR f i k).length<1000000→0≤made→made≤M→made+(Val.sizes (seg q i k):Int)≤B →
  listGo rec t deep n (catR f i k) acc made=some (if M<made+(Val.sizes (seg p i k):Int) then .error 13 else .ok (⟨7,0,[],[],acc++seg p i k⟩,made+(Val.sizes (seg p i k):Int)))
 | 0,i,n,acc,made,h,hn,hL,h0,hM,hB=>by
  obtain ⟨n,rfl⟩:∃ k,n=k+1:=⟨n-1,by omega⟩
  simp only [listGo,catR,seg,Val.sizes]
  rw [if_pos trivial,if_neg (by simp;omega)]
  simp
 | k+1,i,n,acc,made,h,hn,hL,h0,hM,hB=>by
  obtain ⟨n,rfl⟩:∃ k,n=k+1:=⟨n-1,by omega⟩
  obtain ⟨p1,p2,p3⟩:=h i (Nat.le_refl _) (by omega)
  simp only [catR,List.length_append] at hn hL
  rw [seg_succ,sizes_cons] at hB
  rw [seg_succ,sizes_cons,catR_succ]
  have hne:f i++catR f (i+1) k≠[]:=fun e=>by rw [List.append_eq_nil_iff] at e;rw [e.1] at p1;simp at p1
  rw [listGo_ne hne,chk_pos ⟨ho,by omega⟩,hd,p3 _ made (by rw [List.length_append];omega) h0 (by omega),Option.bind_some]
  unfold resC
  by_cases hc:M<made+((p i).size:Int)
  ·rw [if_pos hc,if_pos (by omega)]
  ·rw [if_neg hc]
   simp only []
   rw [listGo_back hd ho k (i+1) n (acc++[p i]) (made+((p i).size:Int)) (fun j h1 h2=>h j (by omega) (by omega)) (by omega) (by rw [List.length_append];simp;omega) (by omega) (by omega) (by omega)]
   have e:made+((p i).size:Int)+(Val.sizes (seg p (i+1) k):Int)=made+(((p i).size+Val.sizes (seg p (i+1) k):Nat):Int):=by omega
   rw [e]
   simp only [List.append_assoc,List.singleton_append]

theorem pairsGo_back {rec:DRec} {M B:Int} {t:Ty} {deep deep':Int} (hd:IntKind.i64.wrap (deep+1)=deep') (ho:1<t.of.length) {f:Nat→List UInt8} {q p:Nat→Val}:∀ (k i n:Nat) (made:Int),
  (∀ j,i≤j→j<i+2*k→PieceOK rec M B (t.of.getD (j % 2) default) deep' (f j) (q j) (p j))→i % 2=0→(∀ j,j<i+2*k→2≤j→j % 2=0→∃ c,CmpV_F (p (j-2)) (p j)=some c∧c<0)→(catR f i (2*k)).length<n→i+(catR f i (2*k)).length<1000000→0≤made→made≤M→made+(Val.sizes (seg q i (2*k)):Int)≤B →
  pairsGo rec t deep n (catR f i (2*k)) (seg p 0 i) made=some (if M<made+(Val.sizes (seg p i (2*k)):Int) then .error 13 else .ok (⟨8,0,[],[],seg p 0 (i+2*k)⟩,made+(Val.sizes (seg p i (2*k)):Int)))
 | 0,i,n,made,h,hi,hc,hn,hL,h0,hM,hB=>by
  obtain ⟨n,rfl⟩:∃ k,n=k+1:=⟨n-1,by omega⟩
  simp only [pairsGo,Nat.mul_zero,catR,seg,Val.sizes]
  rw [if_pos trivial,if_neg (by simp;omega)]
  simp
 | k+1,i,n,made,h,hi,hc,hn,hL,h0,hM,hB=>by
  obtain ⟨n,rfl⟩:∃ k,n=k+1:=⟨n-1,by omega⟩
  obtain ⟨p1,p2,p3⟩:=h i (Nat.le_refl _) (by omega)
  obtain ⟨q1,q2,q3⟩:=h (i+1) (by omega) (by omega)
  rw [show 2*(k+1)=(2*k+1)+1 by omega] at hn hL hB ⊢
  simp only [catR,List.length_append] at hn hL
  rw [seg_succ,sizes_cons,seg_succ,sizes_cons] at hB
  rw [seg_succ p i,sizes_cons,seg_succ p (i+1),sizes_cons,catR_succ,catR_succ]
  rw [show i+1+1=i+2 from rfl] at hn hL hB ⊢
  rw [hi] at p3
  rw [show (i+1) % 2=1 by omega] at q3
  have hne:f i++(f (i+1)++catR f (i+2) (2*k))≠[]:=fun e=>by rw [List.append_eq_nil_iff] at e;rw [e.1] at p1;simp at p1
  rw [pairsGo_ne hne,chk_pos ⟨ho,by rw [seg_len];omega⟩,hd,p3 _ made (by rw [List.length_append,List.length_append];omega) h0 (by omega),Option.bind_some]
  unfold resC
  by_cases hb:M<made+((p i).size:Int)
  ·rw [if_pos hb,if_pos (by omega)]
  rw [if_neg hb]
  simp only []
  have hk:keyAfter (seg p 0 i) (p i)=some true:=by
   unfold keyAfter
   rw [seg_len]
   by_cases hz:i=0
   ·rw [if_pos hz]
   ·obtain ⟨c,hc1,hc2⟩:=hc i (by omega) (by omega) hi
    rw [if_neg hz,chk_pos (by omega),seg_at _ _ _ _ (by omega),Nat.zero_add,hc1,Option.bind_some,decide_eq_true hc2]
  rw [hk,Option.bind_some,if_neg (by decide),q3 _ _ (by rw [List.length_append];omega) (by omega) (by omega),Option.bind_some]
  unfold resC
  by_cases hb2:M<made+((p i).size:Int)+((p (i+1)).size:Int)
  ·rw [if_pos hb2,if_pos (by omega)]
  rw [if_neg hb2]
  simp only []
  have e1:seg p 0 i++[p i,p (i+1)]=seg p 0 (i+2):=by
   rw [seg_snoc,seg_snoc];simp
  rw [e1,pairsGo_back hd ho k (i+2) n _ (fun j h1 h2=>h j (by omega) (by omega)) (by omega) (fun j h1 h2 h3=>hc j (by omega) h2 h3) (by omega) (by omega) (by omega) (by omega) (by omega)]
  have e:made+((p i).size:Int)+((p (i+1)).size:Int)+(Val.sizes (seg p (i+2) (2*k)):Int)=made+(((p i).size+((p (i+1)).size+Val.sizes (seg p (i+1+1) (2*k))):Nat):Int):=by
   rw [show i+1+1=i+2 by omega];omega
  rw [e,show i+2+2*k=i+(2*k+1+1) by omega]

def keepT (R:List Fld) (g:Nat→Int):Nat→Nat→List Int
 | _,0=>[]
 | i,k+1=>if hasJ R (g i)=true then g i::keepT R g (i+1) k else keepT R g (i+1) k
def keepV (R:List Fld) (g:Nat→Int) (p:Nat→Val):Nat→Nat→List Val
 | _,0=>[]
 | i,k+1=>if hasJ R (g i)=true then p i::keepV R g p (i+1) k else keepV R g p (i+1) k
theorem keep_yes {R:List Fld} {g:Nat→Int} {p:Nat→Val} {i k:Nat} (h:hasJ R (g i)=true):keepT R g i (k+1)=g i::keepT R g (i+1) k∧keepV R g p i (k+1)=p i::keepV R g p (i+1) k:=by
 simp only [keepT,keepV];rw [if_pos h,if_pos h];exact ⟨rfl,rfl⟩
theorem keep_no {R:List Fld} {g:Nat→Int} {p:Nat→Val} {i k:Nat} (h:hasJ R (g i)=false):keepT R g i (k+1)=keepT R g (i+1) k∧keepV R g p i (k+1)=keepV R g p (i+1) k:=by
 simp only [keepT,keepV];rw [if_neg (by rw [h];decide),if_neg (by rw [h];decide)];exact ⟨rfl,rfl⟩
theorem keep_size (R:List Fld) (g:Nat→Int) (q p:Nat→Val):∀ (k i:Nat),(∀ j,i≤j→j<i+k→(p j).size≤(q j).size)→Val.sizes (keepV R g p i k)≤Val.sizes (seg q i k)
 | 0,_,_=>Nat.le_refl _
 | k+1,i,h=>by
  have h1:=h i (Nat.le_refl _) (by omega)
  have h2:=keep_size R g q p k (i+1) (fun j h1 h2=>h j (by omega) (by omega))
  simp only [keepV,seg,Val.sizes]
  split
  ·simp only [Val.sizes];omega
  ·omega
theorem keep_all (R:List Fld) (g:Nat→Int) (p:Nat→Val):∀ (k i:Nat),(∀ j,i≤j→j<i+k→hasJ R (g j)=true)→keepT R g i k=seg g i k∧keepV R g p i k=seg p i k
 | 0,_,_=>⟨rfl,rfl⟩
 | k+1,i,h=>by
  obtain ⟨a,b⟩:=keep_all R g p k (i+1) (fun j h1 h2=>h j (by omega) (by omega))
  simp only [keepT,keepV,seg]
  rw [if_pos (h i (Nat.le_refl _) (by omega)),if_pos (h i (Nat.le_refl _) (by omega)),a,b]
  exact ⟨rfl,rfl⟩
theorem keep_mem (R:List Fld) (g:Nat→Int):∀ (k i:Nat) (x:Int),x∈keepT R g i k↔∃ j,i≤j∧j<i+k∧g j=x∧hasJ R x=true
 | 0,i,x=>by simp only [keepT];exact ⟨fun h=>(by cases h),fun ⟨j,h1,h2,_⟩=>(by omega)⟩
 | k+1,i,x=>by
  have ih:=keep_mem R g k (i+1) x
  simp only [keepT]
  by_cases hc:hasJ R (g i)=true
  ·rw [if_pos hc,List.mem_cons,ih]
   constructor
   ·rintro (rfl|⟨j,h1,h2,h3⟩)
    ·exact ⟨i,Nat.le_refl _,by omega,rfl,hc⟩
    ·exact ⟨j,by omega,by omega,h3⟩
   ·rintro ⟨j,h1,h2,h3,h4⟩
    by_cases hj:j=i
    ·subst hj;exact .inl h3.symm
    ·exact .inr ⟨j,by omega,by omega,h3,h4⟩
  ·rw [if_neg hc,ih]
   constructor
   ·rintro ⟨j,h1,h2,h3⟩
    exact ⟨j,by omega,by omega,h3⟩
   ·rintro ⟨j,h1,h2,h3,h4⟩
    by_cases hj:j=i
    ·subst hj;rw [h3] at hc;exact absurd h4 hc
    ·exact ⟨j,by omega,by omega,h3,h4⟩
theorem keep_pw (R:List Fld) (g:Nat→Int):∀ (k i:Nat),(∀ a b,i≤a→a<b→b<i+k→g a<g b)→(keepT R g i k).Pairwise (· < ·)
 | 0,_,_=>.nil
 | k+1,i,h=>by
  have ih:=keep_pw R g k (i+1) (fun a b h1 h2 h3=>h a b (by omega) h2 (by omega))
  simp only [keepT]
  split
  ·refine List.pairwise_cons.2 ⟨fun x hx=>?_,ih⟩
   obtain ⟨j,h1,h2,h3,_⟩:=(keep_mem R g k (i+1) x).1 hx
   rw [← h3]
   exact h i j (Nat.le_refl _) (by omega) (by omega)
  ·exact ih

def RowsOKs (m:List Dcl) (rec:DRec) (M B:Int) (nm:List UInt8) (deep:Int) (g:Int) (f:List UInt8) (q p:Val):Prop :=
 ∃ (w:Int) (c:List UInt8),(w=0∨w=1)∧1≤g∧g≤255∧f=vput (2*g+w).toNat++c∧p.size≤q.size ∧
  (hasJ (rowsU m nm) g=true→DWire_X m FU (fldJ (rowsU m nm) g).ty=some w∧∀ rest made,(c++rest).length≤1000000→0≤made→made+(q.size:Int)≤B→rec (fldJ (rowsU m nm) g).ty (c++rest) deep made=some (resC M made p rest)) ∧
  (hasJ (rowsU m nm) g=false→∀ rest,(c++rest).length≤1000000→KSkip_F (c++rest) w=some ((c.length:Int),0))

theorem fldGo_back {m:List Dcl} {rec:DRec} {M B:Int} {nm:List UInt8} {deep deep':Int} (hd:IntKind.i64.wrap (deep+1)=deep') {g:Nat→Int} {f:Nat→List UInt8} {q p:Nat→Val}:∀ (k i n:Nat) (last:Int) (tg:List Int) (it:List Val) (made:Int),
  (∀ j,i≤j→j<i+k→RowsOKs m rec M B nm deep' (g j) (f j) (q j) (p j))→(∀ a b,i≤a→a<b→b<i+k→g a<g b)→(∀ j,i≤j→j<i+k→last<g j)→(catR f i k).length<n→tg.length+(catR f i k).length<1000000→it.length+(catR f i k).length<1000000→0≤made→made≤M→made+(Val.sizes (seg q i k):Int)≤B →
  fldGo m rec nm deep n (catR f i k) last tg it made=some (if M<made+(Val.sizes (keepV (rowsU m nm) g p i k):Int) then .error 13 else .ok (tg++keepT (rowsU m nm) g i k,it++keepV (rowsU m nm) g p i k,made+(Val.sizes (keepV (rowsU m nm) g p i k):Int)))
 | 0,i,n,last,tg,it,made,h,hp,hl,hn,hL,hL2,h0,hM,hB=>by
  obtain ⟨n,rfl⟩:∃ k,n=k+1:=⟨n-1,by omega⟩
  simp only [fldGo,catR,keepV,keepT,Val.sizes]
  rw [if_pos trivial,if_neg (by simp;omega)]
  simp
 | k+1,i,n,last,tg,it,made,h,hp,hl,hn,hL,hL2,h0,hM,hB=>by
  obtain ⟨n,rfl⟩:∃ k,n=k+1:=⟨n-1,by omega⟩
  obtain ⟨w,c,hw,hg1,hg2,hf,hsz,hyes,hno⟩:=h i (Nat.le_refl _) (by omega)
  have hv:=vput_pos (2*g i+w).toNat
  simp only [catR,List.length_append] at hn hL hL2
  have hfl:(f i).length=(vput (2*g i+w).toNat).length+c.length:=by rw [hf,List.length_append]
  rw [seg_succ,sizes_cons] at hB
  rw [catR_succ]
  have hne:f i++catR f (i+1) k≠[]:=fun e=>by rw [List.append_eq_nil_iff] at e;rw [e.1,List.length_nil] at hfl;omega
  have hkey:=key_ok m nm (t:=g i) (w:=w) hg1 hg2 hw (c++catR f (i+1) k) (by rw [List.length_append,List.length_append];omega)
  rw [← List.append_assoc,← hf] at hkey
  have hlast:=hl i (Nat.le_refl _) (by omega)
  have hnext:=fun (tg:List Int) (it:List Val) (made:Int) (a1:tg.length+(catR f (i+1) k).length<1000000) (a2:it.length+(catR f (i+1) k).length<1000000) (a3:0≤made) (a4:made≤M) (a5:made+(Val.sizes (seg q (i+1) k):Int)≤B) =>
   fldGo_back hd k (i+1) n (g i) tg it made (fun j h1 h2=>h j (by omega) (by omega)) (fun a b h1 h2 h3=>hp a b (by omega) h2 (by omega)) (fun j h1 h2=>hp i j (Nat.le_refl _) (by omega) (by omega)) (by omega) a1 a2 a3 a4 a5
  rw [fldGo_ne hne,hkey,Option.bind_some]
  simp only []
  rw [if_neg (by omega)]
  cases hh:hasJ (rowsU m nm) (g i) with
  | false =>
   rw [if_pos rfl,hno hh _ (by rw [List.length_append];omega),Option.bind_some]
   simp only []
   rw [if_neg (by decide),chk_pos (by rw [List.length_append];omega),Int.toNat_natCast,List.drop_left,hnext tg it made (by omega) (by omega) h0 hM (by omega)]
   rw [(keep_no (p:=p) (k:=k) hh).1,(keep_no (p:=p) (k:=k) hh).2]
  | true =>
   obtain ⟨hwi,hrec⟩:=hyes hh
   rw [if_neg (by decide),hwi,Option.bind_some,if_neg (by simp),hd,hrec _ made (by rw [List.length_append];omega) h0 (by omega),Option.bind_some]
   rw [(keep_yes (p:=p) (k:=k) hh).1,(keep_yes (p:=p) (k:=k) hh).2,sizes_cons]
   unfold resC
   by_cases hc:M<made+((p i).size:Int)
   ·rw [if_pos hc,if_pos (by omega)]
   ·rw [if_neg hc]
    simp only []
    rw [chk_pos ⟨by omega,by omega⟩,hnext (tg++[g i]) (it++[p i]) _ (by rw [List.length_append];simp;omega) (by rw [List.length_append];simp;omega) (by omega) (by omega) (by omega)]
    have e:made+((p i).size:Int)+(Val.sizes (keepV (rowsU m nm) g p (i+1) k):Int)=made+(((p i).size+Val.sizes (keepV (rowsU m nm) g p (i+1) k):Nat):Int):=by omega
    rw [e]
    simp only [List.append_assoc,List.singleton_append]
end Go.Proofs

namespace Go.Proofs
open Go.Sy Go.Lib

abbrev BB:Int:=1125899906842624
theorem size_ge (v:Val):8≤v.size:=by rw [size_eq];omega
theorem wireT_same {l m:List Dcl} (hC:Cpt l m) {t:Ty} (h:(strip t).kind=6→kindL l (strip t).name≠0):wireT m t=wireT l t:=by
 unfold wireT
 by_cases h6:(strip t).kind=6
 ·rw [hC.kind (strip t).name (h h6)]
 ·have:∀ a b:Prop,¬ (strip t).kind=6→(((strip t).kind=1∨(strip t).kind=2∨(strip t).kind=3∨((strip t).kind=6∧a))↔((strip t).kind=1∨(strip t).kind=2∨(strip t).kind=3∨((strip t).kind=6∧b))):=fun a b h=>by
   constructor<;>(rintro (h1|h1|h1|h1)<;>omega)
  by_cases hc:(strip t).kind=1∨(strip t).kind=2∨(strip t).kind=3∨((strip t).kind=6∧kindL m (strip t).name=3)
  ·rw [if_pos hc,if_pos ((this _ _ h6).1 hc)]
  ·rw [if_neg hc,if_neg (fun h=>hc ((this _ _ h6).2 h))]
theorem wire_same {l m:List Dcl} (hC:Cpt l m) {b:Bool} {t:Ty} (hT:TyOK l b t) (n:Nat):DWire_X m (n+2) t=some (wireT l t):=by
 obtain ⟨h1,h2⟩:=strip_ok hT
 rw [wire_gen m h1.kind h2,wireT_same hC (fun h6=>by have:=h1.six h6;omega)]
theorem wire_strip (l:List Dcl) {t:Ty} (h:(strip t).kind≠9):wireT l (strip t)=wireT l t:=by unfold wireT;rw [strip_ne h]
theorem wire_below {l m:List Dcl} (hC:Cpt l m) {t:Ty} (hI:InOK l (strip t)) (n:Nat):DWire_X m (n+1) (strip t)=some (wireT l t):=by
 rw [wire_in m hI.kind,wire_strip m (inok_ty hI),wireT_same hC (fun h6=>by have:=hI.six h6;omega)]

theorem num_core {m:List Dcl} {most:Int} {rec:DRec} {u:Ty} {x:Nat} {v:Val} {deep made:Int} {rest:List UInt8} (h9:u.kind≠9) (hd:deep<8) (hx:x<18446744073709551616) (hw:DWire_X m FU u=some 0) (hv:numWV m u (x:Int)=some (.ok v)) (hs:v.size=8)
  (hL:(vput x++rest).length≤1000000) (h0:0≤made) (hB:made+(v.size:Int)≤BB):contentF m most rec u (vput x++rest) deep made=some (resC (max most 0) made v rest):=by
 unfold contentF
 rw [if_neg h9,if_neg (by omega),pay_eq h0 (by omega) (by rw [hs] at hB;unfold BB at hB;omega)]
 unfold resC
 rw [hs]
 by_cases hc:max most 0<made+8
 ·rw [if_pos hc,if_pos (by simpa using hc)]
 ·rw [if_neg hc,if_neg (by simpa using hc)]
  simp only []
  rw [hw,Option.bind_some,if_pos rfl]
  unfold numberF
  rw [VTake_ok hx rest (by omega),Option.bind_some]
  simp only []
  rw [if_neg (by decide),hv,Option.bind_some]
  simp only []
  rw [chk_pos (by rw [List.length_append];omega),Int.toNat_natCast,List.drop_left,Option.bind_some]
  rfl
theorem txt_core {m:List Dcl} {most:Int} {rec:DRec} {u:Ty} {s:List UInt8} {q v:Val} {deep made:Int} {rest:List UInt8} (h9:u.kind≠9) (hd:deep<8) (hw:DWire_X m FU u=some 1) (hqv:v.size≤q.size)
  (hin:∀ made1,0≤made1→made1≤max most 0→made1+((q.size:Int)-8)≤BB→inF m most rec u s deep made1=some (resI (max most 0) made1 v))
  (hL:(span s++rest).length≤1000000) (h0:0≤made) (hB:made+(q.size:Int)≤BB):contentF m most rec u (span s++rest) deep made=some (resC (max most 0) made v rest):=by
 have h8:=size_ge v
 unfold contentF
 rw [if_neg h9,if_neg (by omega),pay_eq h0 (by omega) (by unfold BB at hB;omega)]
 unfold resC
 by_cases hc:max most 0<made+8
 ·rw [if_pos hc,if_pos (by omega)]
 ·rw [if_neg hc]
  simp only []
  rw [hw,Option.bind_some,if_neg (by decide),text_ok (by omega),Option.bind_some]
  simp only []
  rw [hin (made+8) (by omega) (by omega) (by omega),Option.bind_some]
  unfold resI
  have e:made+8+((v.size:Int)-8)=made+(v.size:Int):=by omega
  rw [e]
  by_cases hc2:max most 0<made+(v.size:Int)
  ·rw [if_pos hc2,if_pos hc2]
  ·rw [if_neg hc2,if_neg hc2]

def Back (l m:List Dcl) (most:Int) (d:Nat) (t:Ty) (v v':Val):Prop :=
 (Full l m→v'=v)∧(v.items=[]→v'=v)∧v'.size≤v.size∧∀ n,2*d≤n→PieceOK (DContent_X m most n) (max most 0) BB t (8-(d:Int)) (encC l (encI l d) t v) v v'

theorem back_of {l m:List Dcl} {most:Int} {d:Nat} {b:Bool} {t:Ty} {v v':Val} (hT:TyOK l b t) (h1:Full l m→v'=v) (h2:v.items=[]→v'=v) (h3:v'.size≤v.size)
  (h:∀ n,2*d≤n→∀ rest made,(encC l (encI l (d+1)) t v++rest).length≤1000000→0≤made→made+(v.size:Int)≤BB→contentF m most (DContent_X m most n) (strip t) (encC l (encI l (d+1)) t v++rest) (7-(d:Int)) made=some (resC (max most 0) made v' rest)) :
  Back l m most (d+1) t v v':=by
 refine ⟨h1,h2,h3,fun n hn=>⟨cont_pos (by omega),h3,fun rest made hL h0 hB=>?_⟩⟩
 have e:(8:Int)-((d+1:Nat):Int)=7-(d:Int):=by omega
 rw [e]
 obtain ⟨hI,h9⟩:=strip_ok hT
 by_cases hk:t.kind=9
 ·obtain ⟨n,rfl⟩:∃ k,n=k+2:=⟨n-2,by omega⟩
  have e2:strip t=t.of.getD 0 default:=if_pos hk
  simp only [DContent_X]
  unfold contentF
  rw [if_pos hk,chk_pos (by have:=h9 hk;omega),← e2]
  exact h n (by omega) rest made hL h0 hB
 ·obtain ⟨n,rfl⟩:∃ k,n=k+1:=⟨n-1,by omega⟩
  have:=h n (by omega) rest made hL h0 hB
  rw [strip_ne hk] at this
  exact this

theorem enc_form {l:List Dcl} {d:Nat} {t:Ty} {v:Val} (hF:Fit l d t v):(wireT l t=0→∃ n,n<18446744073709551616∧encC l (encI l d) t v=vput n∧encI l d t v=vput n)∧(wireT l t=1→encC l (encI l d) t v=span (encI l d t v)):=by
 constructor
 ·intro hw
  unfold encC
  rw [if_pos hw]
  have hw':=hw
  unfold wireT at hw'
  split at hw'
  rotate_left
  ·cases hw'
  rename_i hc
  have key:∀ n:Int,-9223372036854775808≤n→n≤9223372036854775807→∀ d,v.num=n→∃ k,k<18446744073709551616∧encI l (d+1) t v=vput k∧encI l (d+1) t v=vput k:=by
   intro n h1 h2 d hv
   simp only [encI,encF]
   rw [if_neg (by omega),if_neg (by omega),if_neg (by omega),hv]
   split
   ·exact ⟨_,zig_lt h1 h2,rfl,rfl⟩
   ·exact ⟨_,usg_lt h1 h2,rfl,rfl⟩
  cases hF with
  | bool h1 h2 h3=>rename_i n;exact key n (by omega) (by omega) _ rfl
  | num h1 h2 h3=>rename_i n;exact key n (by omega) (by omega) _ rfl
  | text h1 h2=>omega
  | list h1 h2=>omega
  | map h1 h2 h3 h4=>omega
  | enum h1 h2 h3 h4 h5=>rename_i n;exact key n (by omega) (by omega) _ rfl
  | union h1 h2 h3 h4=>omega
  | struct h1 h2 h3 h4 h5 h6 h7=>omega
 ·intro hw
  unfold encC
  rw [if_neg (by omega)]

theorem ex_fun {P:Nat→Val→Prop} (n:Nat) (h:∀ i,i<n→∃ v,P i v):∃ p:Nat→Val,∀ i,i<n→P i (p i):=by
 have h':∀ i,∃ v,i<n→P i v:=fun i=>by
  by_cases hi:i<n
  ·obtain ⟨v,hv⟩:=h i hi;exact ⟨v,fun _=>hv⟩
  ·exact ⟨default,fun h=>absurd h hi⟩
 exact ⟨fun i=>Classical.choose (h' i),fun i hi=>Classical.choose_spec (h' i) hi⟩

theorem getD_pw {gs:List Int} (h:gs.Pairwise (· < ·)) {a b:Nat} (hab:a<b) (hb:b<gs.length):gs.getD a default<gs.getD b default:=by
 rw [List.getD_eq_getElem?_getD,List.getD_eq_getElem?_getD,List.getElem?_eq_getElem (by omega),List.getElem?_eq_getElem hb]
 exact (List.pairwise_iff_getElem.1 h) a b (by omega) hb hab

theorem struct_back {l m:List Dcl} (hS:Sch l) (hm:Sch m) (hC:Cpt l m) {most:Int} {d:Nat} (hd:d≤7) {nm:List UInt8} {gs:List Int} {xs:List Val} (hk:kindL l nm=1) (hlen:gs.length=xs.length) (hp:gs.Pairwise (· < ·))
  (hh:∀ i,i<gs.length→hasJ (rowsU l nm) (gs.getD i default)=true) (hx:∀ i,i<gs.length→Fit l d (fldJ (rowsU l nm) (gs.getD i default)).ty (xs.getD i default)) (hwh:whGo gs (rowsU l nm) 0=true)
  (IH:∀ i,i<gs.length→∃ v',Back l m most d (fldJ (rowsU l nm) (gs.getD i default)).ty (xs.getD i default) v') :
  ∃ v',(Full l m→v'=⟨9,0,[],gs,xs⟩)∧(xs=[]→v'=⟨9,0,[],gs,xs⟩)∧v'.size≤Val.size ⟨9,0,[],gs,xs⟩∧∀ n,2*d≤n→∀ made,(catR (encR l (encI l d) nm ⟨9,0,[],gs,xs⟩) 0 gs.length).length<1000000→0≤made→made≤max most 0→made+((Val.size ⟨9,0,[],gs,xs⟩:Int)-8)≤BB →
   fieldsF m (DContent_X m most n) nm (catR (encR l (encI l d) nm ⟨9,0,[],gs,xs⟩) 0 gs.length) (7-(d:Int)) made=some (resI (max most 0) made v'):=by
 obtain ⟨p,hpp⟩:=ex_fun gs.length IH
 let g:Nat→Int:=fun i=>gs.getD i default
 let q:Nat→Val:=fun i=>xs.getD i default
 have hkeepT:=keep_mem (rowsU m nm) g gs.length 0
 have hsz:=keep_size (rowsU m nm) g q p gs.length 0 (fun j _ hj=>(hpp j (by omega)).2.2.1)
 have hqx:seg q 0 gs.length=xs:=by rw [hlen];exact seg_full xs
 have hgg:seg g 0 gs.length=gs:=seg_full gs
 rw [hqx] at hsz
 have hs0:Val.size ⟨9,0,[],gs,xs⟩=8+Val.sizes xs:=by simp only [Val.size,List.length_nil,Nat.add_zero]
 have hs1:Val.size ⟨9,0,[],keepT (rowsU m nm) g 0 gs.length,keepV (rowsU m nm) g p 0 gs.length⟩=8+Val.sizes (keepV (rowsU m nm) g p 0 gs.length):=by simp only [Val.size,List.length_nil,Nat.add_zero]
 have hall:(∀ j,0≤j→j<0+gs.length→hasJ (rowsU m nm) (g j)=true)→(∀ j,j<gs.length→p j=q j)→(⟨9,0,[],keepT (rowsU m nm) g 0 gs.length,keepV (rowsU m nm) g p 0 gs.length⟩:Val)=⟨9,0,[],gs,xs⟩:=by
  intro a1 a2
  obtain ⟨b1,b2⟩:=keep_all (rowsU m nm) g p gs.length 0 a1
  rw [b1,b2,hgg,seg_congr (q:=q) gs.length 0 (fun j _ hj=>a2 j (by omega)),hqx]
 refine ⟨⟨9,0,[],keepT (rowsU m nm) g 0 gs.length,keepV (rowsU m nm) g p 0 gs.length⟩,fun hf=>hall (fun j _ hj=>hf nm _ (by omega) (hh j (by omega))) (fun j hj=>(hpp j hj).1 hf),fun hx0=>?_,by rw [hs0,hs1];omega,fun n hn made hL h0 hM hB=>?_⟩
 ·have hz:gs.length=0:=by rw [hlen,hx0];rfl
  exact hall (fun j _ hj=>by omega) (fun j hj=>by omega)
 ·unfold fieldsF
  have hrow:∀ j,0≤j→j<0+gs.length→RowsOKs m (DContent_X m most n) (max most 0) BB nm (8-(d:Int)) (g j) (encR l (encI l d) nm ⟨9,0,[],gs,xs⟩ j) (q j) (p j):=by
   intro j _ hj
   have hj':j<gs.length:=by omega
   obtain ⟨hT,hg1,hg2⟩:=row_ty hS (by omega) (hh j hj')
   obtain ⟨_,_,b3,b4⟩:=hpp j hj'
   obtain ⟨c1,c2,c3⟩:=b4 n hn
   have hfm:=enc_form (hx j hj')
   refine ⟨wireT l (fldJ (rowsU l nm) (gs.getD j default)).ty,encC l (encI l d) (fldJ (rowsU l nm) (gs.getD j default)).ty (xs.getD j default),wire01 _ _,hg1,hg2,rfl,b3,fun hy=>?_,fun hno rest hr=>?_⟩
   ·rcases hC.row nm _ (by omega) (hh j hj') with ⟨e1,e2⟩|⟨e1,e2,e3⟩
    ·have e2':(fldJ (rowsU m nm) (g j)).ty=(fldJ (rowsU l nm) (gs.getD j default)).ty:=e2
     rw [e2']
     exact ⟨wire_same hC hT _,c3⟩
    ·have:hasJ (rowsU m nm) (g j)=false:=e3
     rw [this] at hy;cases hy
   ·rcases wire01 l (fldJ (rowsU l nm) (gs.getD j default)).ty with e|e
    ·obtain ⟨k,hk1,hk2,_⟩:=hfm.1 e
     rw [hk2] at hr ⊢
     rw [e]
     exact skip_num hk1 rest (by omega)
    ·have:=hfm.2 e
     rw [this] at hr ⊢
     rw [e]
     exact skip_text _ rest (by omega)
  have hpw:∀ a b,0≤a→a<b→b<0+gs.length→g a<g b:=fun a b _ h1 h2=>getD_pw hp h1 (by omega)
  have hwrap:IntKind.i64.wrap (7-(d:Int)+1)=8-(d:Int):=by rw [w64 (by omega) (by omega)];omega
  have hgo:=fldGo_back (m:=m) (rec:=DContent_X m most n) (M:=max most 0) (B:=BB) (nm:=nm) hwrap (g:=g) (f:=encR l (encI l d) nm ⟨9,0,[],gs,xs⟩) (q:=q) (p:=p) gs.length 0 ((catR (encR l (encI l d) nm ⟨9,0,[],gs,xs⟩) 0 gs.length).length+1) 0 [] [] made hrow hpw (fun j _ hj=>by have:=(row_ty hS (by omega) (hh j (by omega))).2.1;show (0:Int)<gs.getD j default;omega) (by omega) (by simp only [List.length_nil];omega) (by simp only [List.length_nil];omega) h0 hM (by rw [hqx];omega)
  rw [hgo,Option.bind_some]
  unfold resI
  rw [hs1]
  have e:made+(((8+Val.sizes (keepV (rowsU m nm) g p 0 gs.length):Nat):Int)-8)=made+(Val.sizes (keepV (rowsU m nm) g p 0 gs.length):Int):=by omega
  rw [e]
  by_cases hc:max most 0<made+(Val.sizes (keepV (rowsU m nm) g p 0 gs.length):Int)
  ·rw [if_pos hc,if_pos hc]
  ·rw [if_neg hc,if_neg hc]
   simp only [List.nil_append]
   have hmem:∀ x,x∈gs→∃ j,j<gs.length∧gs.getD j default=x:=fun x hx=>by
    obtain ⟨i,hi,rfl⟩:=List.mem_iff_getElem.1 hx
    exact ⟨i,hi,by rw [List.getD_eq_getElem?_getD,List.getElem?_eq_getElem hi];rfl⟩
   have hw2:whGo (keepT (rowsU m nm) g 0 gs.length) (rowsU m nm) 0=true:=by
    rw [whGo_iff (hm.pw nm) (keep_pw _ _ _ _ hpw) (fun x hx=>((hkeepT x).1 hx).choose_spec.2.2.2)]
    intro f hf hk9
    have hl:=(whGo_iff (hS.pw nm) hp (fun x hx=>by obtain ⟨j,hj,rfl⟩:=hmem x hx;exact hh j hj)).1 hwh
    have hfj:=row_has (hm.pw nm) hf
    cases hq:hasJ (rowsU l nm) f.tag with
    | false=>exact absurd (hC.fresh nm f hk hf hq) hk9
    | true =>
     rcases hC.row nm f.tag (by omega) hq with ⟨e1,e2⟩|⟨e1,e2,e3⟩
     ·obtain ⟨a1,a2⟩:=has_row hq
      rw [hfj.2] at e2
      have:=hl _ a1 (by rw [← e2];exact hk9)
      rw [a2] at this
      obtain ⟨j,hj,hj2⟩:=hmem _ this
      exact (hkeepT f.tag).2 ⟨j,Nat.zero_le _,by omega,hj2,e1⟩
     ·rw [hfj.1] at e3;cases e3
   rw [DRows_F,Option.bind_some,chk_pos (by have:=hm.len nm;omega),hw2]
   rfl
end Go.Proofs

namespace Go.Proofs
open Go.Sy Go.Lib

theorem enc_num {l:List Dcl} {d:Nat} {t:Ty} {v:Val} (h:wireT l t=0):encC l (encI l (d+1)) t v=if v.kind=2 then vput (zig v.num) else vput (usg v.num):=by
 unfold encC
 rw [if_pos h]
 unfold wireT at h
 split at h
 ·rename_i hc
  simp only [encI,encF]
  rw [if_neg (by omega),if_neg (by omega),if_neg (by omega)]
 ·cases h
theorem enc_txt {l:List Dcl} {d:Nat} {t:Ty} {v:Val} (h:wireT l t=1):encC l (encI l d) t v=span (encI l d t v):=by
 unfold encC
 rw [if_neg (by omega)]
theorem wire_num {l:List Dcl} {t:Ty} (h:(strip t).kind=1∨(strip t).kind=2∨(strip t).kind=3∨((strip t).kind=6∧kindL l (strip t).name=3)):wireT l t=0:=if_pos h
theorem wire_txt {l:List Dcl} {t:Ty} (h:¬ ((strip t).kind=1∨(strip t).kind=2∨(strip t).kind=3∨((strip t).kind=6∧kindL l (strip t).name=3))):wireT l t=1:=if_neg h
theorem usg_nat {n:Int} (h:0≤n):((usg n:Nat):Int)=n:=by unfold usg;rw [if_pos h];omega

theorem num_back {l m:List Dcl} (hC:Cpt l m) {most:Int} {d:Nat} (hd:d≤7) {b:Bool} {t:Ty} {k n:Int} (hT:TyOK l b t) (hw:wireT l t=0) {x:Nat} (hx:x<18446744073709551616) (he:(if k=2 then vput (zig n) else vput (usg n))=vput x) (hv:numWV m (strip t) (x:Int)=some (.ok ⟨k,n,[],[],[]⟩)) :
  Back l m most (d+1) t ⟨k,n,[],[],[]⟩ ⟨k,n,[],[],[]⟩:=by
 obtain ⟨hI,h9⟩:=strip_ok hT
 refine back_of hT (fun _=>rfl) (fun _=>rfl) (Nat.le_refl _) (fun N hN rest made hL h0 hB=>?_)
 rw [enc_num hw] at hL ⊢
 simp only [] at hL ⊢
 rw [he] at hL ⊢
 exact num_core (inok_ty hI) (by omega) hx (by rw [show FU=99999+1 from rfl,wire_below hC hI,hw]) hv rfl hL h0 hB
theorem txt_back {l m:List Dcl} (hC:Cpt l m) {most:Int} {d:Nat} (hd:d≤7) {b:Bool} {t:Ty} {v v':Val} (hT:TyOK l b t) (hw:wireT l t=1) (h1:Full l m→v'=v) (h2:v.items=[]→v'=v) (h3:v'.size≤v.size)
  (hin:∀ n,2*d≤n→∀ made,(encI l (d+1) t v).length<1000000→0≤made→made≤max most 0→made+((v.size:Int)-8)≤BB→inF m most (DContent_X m most n) (strip t) (encI l (d+1) t v) (7-(d:Int)) made=some (resI (max most 0) made v')) :
  Back l m most (d+1) t v v':=by
 obtain ⟨hI,h9⟩:=strip_ok hT
 refine back_of hT h1 h2 h3 (fun N hN rest made hL h0 hB=>?_)
 rw [enc_txt hw] at hL ⊢
 exact txt_core (inok_ty hI) (by omega) (by rw [show FU=99999+1 from rfl,wire_below hC hI,hw]) h3 (fun made1 a1 a2 a3=>hin N hN made1 (by have:=span_len (encI l (d+1) t v);rw [List.length_append] at hL;omega) a1 a2 a3) hL h0 hB

theorem key_plain {l:List Dcl} {d:Nat} {t:Ty} {v:Val} (hk:KeyOK l t) (hF:Fit l d t v):v.items=[]∧(t.kind≠6→v.kind=t.kind)∧(t.kind=6→v.kind=6):=by
 have h9:strip t=t:=strip_ne (by unfold KeyOK at hk;omega)
 unfold KeyOK at hk
 cases hF with
 | bool h1 h2 h3=>rw [h9] at h1;exact ⟨rfl,fun _=>h1.symm,fun h=>by omega⟩
 | num h1 h2 h3=>rw [h9] at *;exact ⟨rfl,fun _=>rfl,fun h=>h⟩
 | text h1 h2=>rw [h9] at *;exact ⟨rfl,fun _=>rfl,fun h=>h⟩
 | list h1 h2=>rw [h9] at h1;omega
 | map h1 h2 h3 h4=>rw [h9] at h1;omega
 | enum h1 h2 h3 h4 h5=>rw [h9] at h1;exact ⟨rfl,fun h=>absurd h1 h,fun _=>rfl⟩
 | union h1 h2 h3 h4=>rw [h9] at h1 h2;omega
 | struct h1 h2 h3 h4 h5 h6 h7=>rw [h9] at h1 h2;omega

theorem size_many (k n:Int) (tg:List Int) (xs:List Val):Val.size ⟨k,n,[],tg,xs⟩=8+Val.sizes xs:=by simp only [Val.size,List.length_nil,Nat.add_zero]
theorem seg_nil {α:Type} (p:Nat→α) {xs:List α} (h:xs=[]):seg p 0 xs.length=[]:=by subst h;rfl

theorem core {l m:List Dcl} (hS:Sch l) (hm:Sch m) (hC:Cpt l m) (most:Int):∀ (d:Nat),d≤8→∀ (b:Bool) (t:Ty) (v:Val),TyOK l b t→Fit l d t v→∃ v',Back l m most d t v v'
 | 0,_,b,t,v,hT,hF=>by have:=fit_pos hF;omega
 | d+1,hd,b,t,v,hT,hF=>by
  have IH:=core hS hm hC most d (by omega)
  obtain ⟨hI,h9⟩:=strip_ok hT
  have hI9:=inok_ty hI
  have hwrap:IntKind.i64.wrap (7-(d:Int)+1)=8-(d:Int):=by rw [w64 (by omega) (by omega)];omega
  cases hF with
  | bool h1 h2 h3 =>
   rename_i n
   refine ⟨_,num_back hC (by omega) hT (wire_num (.inl h1)) (usg_lt (n:=n) (by omega) (by omega)) (if_neg (by decide)) ?_⟩
   unfold numWV
   rw [usg_nat h2,if_pos h1,if_neg (by omega),w64 (by omega) (by omega),h1]
  | num h1 h2 h3 =>
   rename_i n
   rcases h1 with h1|h1
   ·refine ⟨_,num_back hC (by omega) hT (wire_num (.inr (.inl h1))) (zig_lt h2 h3) (if_pos h1) ?_⟩
    unfold numWV
    rw [if_neg (by omega),if_pos h1,VBack_ok (zig_lt h2 h3),Option.bind_some,unz_zig]
   ·refine ⟨_,num_back hC (by omega) hT (wire_num (.inr (.inr (.inl h1)))) (usg_lt h2 h3) (if_neg (by omega)) ?_⟩
    unfold numWV
    rw [if_neg (by omega),if_neg (by omega),if_neg (by omega),i64_usg h2 h3]
  | enum h1 h2 h3 h4 h5 =>
   rename_i n
   refine ⟨_,num_back hC (by omega) hT (wire_num (.inr (.inr (.inr ⟨h1,h2⟩)))) (usg_lt (n:=n) (by omega) (by omega)) (if_neg (by decide)) ?_⟩
   have hrow:hasJ (rowsU m (strip t).name) n=true:=by
    rcases hC.row (strip t).name n (by omega) h5 with ⟨e1,_⟩|⟨e1,_,_⟩
    ·exact e1
    ·omega
   unfold numWV
   rw [usg_nat h3,if_neg (by omega),if_neg (by omega),if_pos h1,if_neg (by omega),w64 (by omega) (by omega),DRow_F2,Option.bind_some]
   simp only []
   rw [hrow,if_pos rfl]
  | text h1 h2 =>
   rename_i s
   refine ⟨_,txt_back (v':=⟨(strip t).kind,0,s,[],[]⟩) hC (by omega) hT (wire_txt (by omega)) (fun _=>rfl) (fun _=>rfl) (Nat.le_refl _) (fun N hN made hL h0 hM hB=>?_)⟩
   have e:encI l (d+1) t ⟨(strip t).kind,0,s,[],[]⟩=s:=by simp only [encI,encF];rw [if_pos h1]
   rw [e] at hL ⊢
   have hz:Val.size ⟨(strip t).kind,0,s,[],[]⟩=8+s.length:=by simp only [Val.size,Val.sizes];omega
   unfold inF resI
   rw [if_pos h1,pay_eq h0 (by omega) (by unfold BB at hB;omega),hz]
   have e2:made+(((8+s.length:Nat):Int)-8)=made+(s.length:Int):=by omega
   rw [e2]
   by_cases hc:max most 0<made+(s.length:Int)
   ·rw [if_pos hc,if_pos hc]
   ·rw [if_neg hc,if_neg hc]
    simp only []
    have hval:(if (strip t).kind=4 then ValidV_F s else some true)=some true:=by
     split
     ·rename_i h4
      unfold ValidV_F
      rw [chk_pos (by omega),decide_eq_true (h2 h4)]
     ·rfl
    rw [hval,Option.bind_some,if_neg (by decide)]
  | list h1 h2 =>
   rename_i xs
   have hl1:=hI.len.1 h1
   have hsub:=hI.sub 0 (by omega)
   obtain ⟨p,hp⟩:=ex_fun xs.length (fun i hi=>IH true _ _ hsub (h2 i hi))
   let q:Nat→Val:=fun i=>xs.getD i default
   have hq:seg q 0 xs.length=xs:=seg_full xs
   have hsz:Val.sizes (seg p 0 xs.length)≤Val.sizes xs:=by
    have:=sizes_le p q xs.length 0 (fun j _ hj=>(hp j (by omega)).2.2.1)
    rwa [hq] at this
   refine ⟨⟨7,0,[],[],seg p 0 xs.length⟩,txt_back hC (by omega) hT (wire_txt (by omega)) (fun hf=>?_) (fun hx=>?_) (by rw [size_many,size_many];omega) (fun N hN made hL h0 hM hB=>?_)⟩
   ·rw [seg_congr (q:=q) xs.length 0 (fun j _ hj=>(hp j (by omega)).1 hf),hq]
   ·have hx':xs=[]:=hx
    rw [seg_nil p hx',hx']
   ·have e:encI l (d+1) t ⟨7,0,[],[],xs⟩=catR (encM l (encI l d) (strip t) ⟨7,0,[],[],xs⟩) 0 xs.length:=by
     simp only [encI,encF];rw [if_neg (by omega),if_pos (.inl h1)]
    rw [e] at hL ⊢
    unfold inF resI
    rw [if_neg (by omega),if_pos h1,listGo_back (M:=max most 0) (B:=BB) (q:=q) (p:=p) hwrap (by omega) xs.length 0 _ [] made (fun j _ hj=>by
     have e0:j % (strip t).of.length=0:=by rw [hl1];omega
     show PieceOK _ _ _ _ _ (encC l (encI l d) ((strip t).of.getD (j % (strip t).of.length) default) (xs.getD j default)) _ _
     rw [e0]
     exact (hp j (by omega)).2.2.2 N (by omega)) (by omega) (by simp only [List.length_nil];omega) h0 hM (by rw [hq];rw [size_many] at hB;omega)]
    rw [size_many,show made+(((8+Val.sizes (seg p 0 xs.length):Nat):Int)-8)=made+(Val.sizes (seg p 0 xs.length):Int) by omega]
    rfl
  | map h1 h2 h3 h4 =>
   rename_i xs
   have hl2:=hI.len.2 h1
   have hkey:=hI.key h1
   obtain ⟨p,hp⟩:=ex_fun xs.length (fun i hi=>IH true _ _ (hI.sub (i % 2) (by omega)) (h4 i hi))
   let q:Nat→Val:=fun i=>xs.getD i default
   have hq:seg q 0 xs.length=xs:=seg_full xs
   have hsz:Val.sizes (seg p 0 xs.length)≤Val.sizes xs:=by
    have:=sizes_le p q xs.length 0 (fun j _ hj=>(hp j (by omega)).2.2.1)
    rwa [hq] at this
   refine ⟨⟨8,0,[],[],seg p 0 xs.length⟩,txt_back hC (by omega) hT (wire_txt (by omega)) (fun hf=>?_) (fun hx=>?_) (by rw [size_many,size_many];omega) (fun N hN made hL h0 hM hB=>?_)⟩
   ·rw [seg_congr (q:=q) xs.length 0 (fun j _ hj=>(hp j (by omega)).1 hf),hq]
   ·have hx':xs=[]:=hx
    rw [seg_nil p hx',hx']
   ·have e:encI l (d+1) t ⟨8,0,[],[],xs⟩=catR (encM l (encI l d) (strip t) ⟨8,0,[],[],xs⟩) 0 xs.length:=by
     simp only [encI,encF];rw [if_neg (by omega),if_pos (.inr h1)]
    obtain ⟨k,hk⟩:∃ k,xs.length=2*k:=⟨xs.length / 2,by omega⟩
    have hpk:∀ j,j<xs.length→j % 2=0→p j=q j:=fun j hj hj2=>by
     have hf:=h4 j hj
     rw [hj2] at hf
     exact (hp j hj).2.1 (key_plain hkey hf).1
    rw [e] at hL ⊢
    unfold inF resI pairsF
    rw [if_neg (by omega),if_neg (by omega),if_pos h1]
    have hgo:=pairsGo_back (rec:=DContent_X m most N) (M:=max most 0) (B:=BB) (t:=strip t) (f:=encM l (encI l d) (strip t) ⟨8,0,[],[],xs⟩) (q:=q) (p:=p) hwrap (by omega) k 0 ((catR (encM l (encI l d) (strip t) ⟨8,0,[],[],xs⟩) 0 (2*k)).length+1) made (fun j _ hj=>by
     show PieceOK _ _ _ _ _ (encC l (encI l d) ((strip t).of.getD (j % (strip t).of.length) default) (xs.getD j default)) _ _
     rw [hl2]
     exact (hp j (by omega)).2.2.2 N (by omega)) rfl (fun j hj hj2 hje=>by
      rw [hpk (j-2) (by omega) (by omega),hpk j (by omega) hje]
      have:=h3 (j / 2-1) (by omega)
      rw [show 2*(j / 2-1)=j-2 by omega,show j-2+2=j by omega] at this
      exact this) (by omega) (by rw [← hk];omega) h0 hM (by rw [← hk,hq];rw [size_many] at hB;omega)
    rw [← hk] at hgo
    rw [size_many,show made+(((8+Val.sizes (seg p 0 xs.length):Nat):Int)-8)=made+(Val.sizes (seg p 0 xs.length):Int) by omega]
    rw [Nat.zero_add] at hgo
    exact hgo
  | union h1 h2 h3 h4 =>
   rename_i g x
   obtain ⟨hTg,hg1,hg2⟩:=row_ty hS (nm:=(strip t).name) (g:=g) (by omega) h3
   obtain ⟨y,b1,b2,b3,b4⟩:=IH false _ _ hTg h4
   have hs1:∀ z:Val,Val.size ⟨10,0,[],[g],[z]⟩=8+z.size:=fun z=>by rw [size_many];simp only [Val.sizes];omega
   have hrow:hasJ (rowsU m (strip t).name) g=true∧(fldJ (rowsU m (strip t).name) g).ty=(fldJ (rowsU l (strip t).name) g).ty:=by
    rcases hC.row (strip t).name g (by omega) h3 with e1|⟨e1,_,_⟩
    ·exact e1
    ·omega
   refine ⟨⟨10,0,[],[g],[y]⟩,txt_back hC (by omega) hT (wire_txt (by omega)) (fun hf=>by rw [b1 hf]) (fun hx=>by cases hx) (by rw [hs1,hs1];omega) (fun N hN made hL h0 hM hB=>?_)⟩
   have e:encI l (d+1) t ⟨10,0,[],[g],[x]⟩=vput (2*g+wireT l (fldJ (rowsU l (strip t).name) g).ty).toNat++encC l (encI l d) (fldJ (rowsU l (strip t).name) g).ty x:=by
    simp only [encI,encF]
    rw [if_neg (by omega),if_neg (by omega),if_pos ⟨h1,by omega⟩]
    simp only [List.length_singleton,catR,List.append_nil]
    rfl
   rw [e] at hL ⊢
   obtain ⟨c1,c2,c3⟩:=b4 N (by omega)
   have hv:=vput_pos (2*g+wireT l (fldJ (rowsU l (strip t).name) g).ty).toNat
   rw [List.length_append] at hL
   unfold inF resI unionF
   rw [if_neg (by omega),if_neg (by omega),if_neg (by omega),DKind_F,Option.bind_some,hC.kind _ (by omega),if_pos h2,if_neg (fun h0=>by rw [List.append_eq_nil_iff] at h0;rw [h0.1] at hv;simp at hv),key_ok m _ hg1 hg2 (wire01 l _) _ (by rw [List.length_append];omega),Option.bind_some]
   simp only []
   rw [hrow.1,if_neg (by decide),hrow.2,show FU=99998+2 from rfl,wire_same hC hTg,Option.bind_some,if_neg (by simp),hwrap]
   have c4:=c3 [] made (by rw [List.append_nil];omega) h0 (by rw [hs1] at hB;omega)
   rw [List.append_nil] at c4
   rw [c4,Option.bind_some,hs1,show made+(((8+y.size:Nat):Int)-8)=made+(y.size:Int) by omega]
   unfold resC
   by_cases hc:max most 0<made+(y.size:Int)
   ·rw [if_pos hc,if_pos hc]
   ·rw [if_neg hc,if_neg hc]
    simp only []
    rw [if_neg (by simp)]
  | struct h1 h2 h3 h4 h5 h6 h7 =>
   rename_i gs xs
   obtain ⟨v',a1,a2,a3,a4⟩:=struct_back hS hm hC (most:=most) (d:=d) (by omega) h2 h3 h4 h5 h6 h7 (fun i hi=>IH false _ _ (row_ty hS (by omega) (h5 i hi)).1 (h6 i hi))
   refine ⟨v',txt_back hC (by omega) hT (wire_txt (by omega)) a1 a2 a3 (fun N hN made hL h0 hM hB=>?_)⟩
   have e:encI l (d+1) t ⟨9,0,[],gs,xs⟩=catR (encR l (encI l d) (strip t).name ⟨9,0,[],gs,xs⟩) 0 gs.length:=by
    simp only [encI,encF]
    rw [if_neg (by omega),if_neg (by omega),if_pos ⟨h1,by omega⟩]
   rw [e] at hL ⊢
   unfold inF
   rw [if_neg (by omega),if_neg (by omega),if_neg (by omega),DKind_F,Option.bind_some,hC.kind _ (by omega),if_neg (by omega)]
   exact a4 N (by omega) made hL h0 hM hB
end Go.Proofs

namespace Go.Proofs
open Go.Sy Go.Lib

def GoodC (m:List Dcl) (d:Nat) (M:Int) (t:Ty) (s:List UInt8) (made:Int) (r:Except Int (Val×List UInt8×Int)):Prop :=
 (∀ e,r=.error e→e≠0)∧∀ v rest made',r=.ok (v,rest,made')→Fit m d t v∧made'=made+(v.size:Int)∧made'≤M∧v.size+9*rest.length≤9*s.length∧(encC m (encI m d) t v).length+rest.length≤s.length
def GoodR (m:List Dcl) (d:Nat) (rec:DRec) (M:Int) (deep:Int) (t:Ty):Prop:=∀ s made,s.length≤4000→0≤made→made+9*(s.length:Int)+8≤BB→∃ r,rec t s deep made=some r∧GoodC m d M t s made r

theorem Cmp_tot (a b:Val):∃ c,CmpV_F a b=some c:=by
 have hN:∀ x y:Int,∃ c,CmpN_F x y=some c:=fun x y=>by
  unfold CmpN_F IsNaNn_F
  simp only [Option.bind_some]
  cases (x != x)<;>cases (y != y)<;>cases decide (x<y)<;>cases decide (y<x)<;>exact ⟨_,rfl⟩
 have hI:∀ x y:Int,∃ c,CmpI_F x y=some c:=fun x y=>by
  unfold CmpI_F IsNaNi_F
  simp only [Option.bind_some]
  cases (x != x)<;>cases (y != y)<;>cases decide (x<y)<;>cases decide (y<x)<;>exact ⟨_,rfl⟩
 have hU:∀ x y:Int,∃ c,CmpU_F x y=some c:=fun x y=>by
  unfold CmpU_F IsNaNu_F
  simp only [Option.bind_some]
  cases (x != x)<;>cases (y != y)<;>cases decide (x<y)<;>cases decide (y<x)<;>exact ⟨_,rfl⟩
 have hK:∃ c,KeyedV_F a.kind=some c:=by
  unfold KeyedV_F
  cases (a.kind == 1)<;>cases (a.kind == 2)<;>cases (a.kind == 3)<;>cases (a.kind == 6)<;>cases (a.kind == 4)<;>exact ⟨_,rfl⟩
 obtain ⟨n,hn⟩:=hN a.kind b.kind
 obtain ⟨i,hi⟩:=hI a.num b.num
 obtain ⟨u,hu⟩:=hU (IntKind.u64.wrap a.num) (IntKind.u64.wrap b.num)
 obtain ⟨k,hk⟩:=hK
 unfold CmpV_F CompareS_F
 rw [hn,hi,hu,hk]
 cases (a.kind != b.kind)
 ·cases k
  ·exact ⟨_,rfl⟩
  ·cases (a.kind == 4)
   ·cases (a.kind == 3)<;>exact ⟨_,rfl⟩
   ·exact ⟨_,rfl⟩
 ·exact ⟨_,rfl⟩

end Go.Proofs

namespace Go.Proofs
open Go.Sy Go.Lib

inductive LenB:Val→Prop
 | mk {v:Val}:v.items.length≤100000→v.tags.length≤100000→v.text.length≤100000→(∀ i,i<v.items.length→LenB (v.items.getD i default))→LenB v

theorem bneF {α:Type} [BEq α] [LawfulBEq α] (a:α):(a != a)=false:=by simp
theorem Iter_ex {R : Type} {body : Int → Option (Int ⊕ R)} (n : Nat) (e : R) (P : R → Prop) (Q : Nat → Prop) (he : body (n : Int) = some (.inr e)) (hb : ∀ i, i < n → (body (i : Int) = some (.inl ((i + 1 : Nat) : Int)) ∧ Q i) ∨ ∃ r, body (i : Int) = some (.inr r) ∧ P r) :
    ∃ r, Iter body 0 = some r ∧ (P r ∨ (r = e ∧ ∀ i, i < n → Q i)) := by
  have key : ∀ k i, i + k = n → ∃ r, Iter body (i : Int) = some r ∧ (P r ∨ (r = e ∧ ∀ j, i ≤ j → j < n → Q j)) := by
    intro k
    induction k with
    | zero => intro i hi; obtain rfl : i = n := by omega
              exact ⟨e, Iter_end he, .inr ⟨rfl, fun j h1 h2 => by omega⟩⟩
    | succ k ih =>
      intro i hi
      rcases hb i (by omega) with ⟨h1, h2⟩ | ⟨r, h1, h2⟩
      · obtain ⟨r, h3, h4⟩ := ih (i + 1) (by omega)
        refine ⟨r, by rw [Iter_next h1]; exact h3, h4.imp id (fun h => ⟨h.1, fun j a b => ?_⟩)⟩
        by_cases hj : j = i
        · subst hj; exact h2
        · exact h.2 j (by omega) b
      · exact ⟨r, Iter_end h1, .inl h2⟩
  obtain ⟨r, h1, h2⟩ := key n 0 (by omega)
  exact ⟨r, h1, h2.imp id (fun h => ⟨h.1, fun j hj => h.2 j (Nat.zero_le _) hj⟩)⟩

theorem bare_eq (v:Val):BareV_F v=some (decide (v.tags=[])&&decide (v.items=[])):=by
 unfold BareV_F
 by_cases h1:v.tags=[]
 ·by_cases h2:v.items=[]
  ·rw [h1,h2];rfl
  ·rw [h1,beq_eq_false_iff_ne.2 (show (v.items.length:Int)≠0 from fun h=>h2 (List.length_eq_zero_iff.1 (by omega))),decide_eq_false h2];rfl
 ·rw [beq_eq_false_iff_ne.2 (show (v.tags.length:Int)≠0 from fun h=>h1 (List.length_eq_zero_iff.1 (by omega))),decide_eq_false h1];rfl
theorem bare_inv {v:Val} (h:BareV_F v=some true):v.tags=[]∧v.items=[]:=by
 rw [bare_eq] at h
 simpa using h
theorem bare_tot (v:Val):∃ b,BareV_F v=some b:=⟨_,bare_eq v⟩

theorem sgl_tot (sh:Sgl) (v:Val):∃ b,SglV_F sh v=some b∧(b=true→v.tags=[]∧v.items=[]∧v.text=[]∧sh.least≤v.num∧v.num≤sh.most):=by
 obtain ⟨b,hb⟩:=bare_tot v
 unfold SglV_F
 rw [hb]
 cases b with
 | false=>exact ⟨false,rfl,fun h=>by cases h⟩
 | true =>
  obtain ⟨h1,h2⟩:=bare_inv hb
  by_cases h3:v.text=[]
  ·by_cases h4:sh.least≤v.num
   ·by_cases h5:v.num≤sh.most
    ·refine ⟨true,?_,fun _=>⟨h1,h2,h3,h4,h5⟩⟩
     rw [h3,decide_eq_true h4,decide_eq_true h5];rfl
    ·exact ⟨false,by rw [h3,decide_eq_true h4,decide_eq_false h5];rfl,fun h=>by cases h⟩
   ·exact ⟨false,by rw [h3,decide_eq_false h4];rfl,fun h=>by cases h⟩
  ·exact ⟨false,by rw [beq_eq_false_iff_ne.2 h3];rfl,fun h=>by cases h⟩
theorem wds_tot (sh:Wds) (v:Val) (hl:v.text.length≤100000):∃ b,WdsV_F sh v=some b∧(b=true→v.tags=[]∧v.items=[]∧v.num=0∧(sh.right=true→badL v.text<0)):=by
 obtain ⟨b,hb⟩:=bare_tot v
 unfold WdsV_F ValidV_F
 rw [hb,chk_pos (by omega)]
 cases b with
 | false=>exact ⟨false,rfl,fun h=>by cases h⟩
 | true =>
  obtain ⟨h1,h2⟩:=bare_inv hb
  by_cases h3:v.num=0
  ·cases hr:sh.right with
   | false=>exact ⟨true,by rw [h3];rfl,fun _=>⟨h1,h2,h3,fun h=>by cases h⟩⟩
   | true=>exact ⟨decide (badL v.text<0),by rw [h3];rfl,fun h=>⟨h1,h2,h3,fun _=>by simpa using h⟩⟩
  ·exact ⟨false,by rw [beq_eq_false_iff_ne.2 h3];rfl,fun h=>by cases h⟩
theorem mny_tot (sh:Mny) (v:Val):∃ b,MnyV_F sh v=some b∧(b=true→v.num=0∧v.text=[]∧v.tags=[]):=by
 unfold MnyV_F
 by_cases h1:v.num=0
 ·by_cases h2:v.text=[]
  ·by_cases h3:v.tags=[]
   ·exact ⟨true,by rw [h1,h2,h3];rfl,fun _=>⟨h1,h2,h3⟩⟩
   ·exact ⟨false,by rw [h1,h2,beq_eq_false_iff_ne.2 (show (v.tags.length:Int)≠0 from fun h=>h3 (List.length_eq_zero_iff.1 (by omega)))];rfl,fun h=>by cases h⟩
  ·exact ⟨false,by rw [h1,beq_eq_false_iff_ne.2 h2];rfl,fun h=>by cases h⟩
 ·exact ⟨false,by rw [beq_eq_false_iff_ne.2 h1];rfl,fun h=>by cases h⟩

theorem tgd_loop (sh:Tgd) (v:Val) (m1:Bool) (hl:v.tags.length≤100000):∀ (k i:Nat) (last:Int),i+k=v.tags.length →
  ∃ r,Iter (TgdV_L7 sh v m1) (last,(i:Int))=some r∧(r=.inl false∨(r=.inr ()∧(v.tags.drop i).Pairwise (· < ·)∧∀ g,g∈v.tags.drop i→last<g∧g≤255))
 | 0,i,last,hi=>by
  refine ⟨.inr (),Iter_end (by unfold TgdV_L7;rw [cDF (by simp only [];omega)]),.inr ⟨rfl,?_⟩⟩
  rw [List.drop_of_length_le (by omega)]
  exact ⟨.nil,fun g hg=>by cases hg⟩
 | k+1,i,last,hi=>by
  have hd:v.tags.drop i=v.tags.getD i default::v.tags.drop (i+1):=by rw [List.drop_eq_getElem_cons (by omega),List.getD_eq_getElem?_getD,List.getElem?_eq_getElem (by omega)];rfl
  have hb:TgdV_L7 sh v m1 (last,(i:Int))=if v.tags.getD i default≤last then some (.inr (.inl false)) else if 255<v.tags.getD i default then some (.inr (.inl false)) else some (.inl (v.tags.getD i default,((i+1:Nat):Int))):=by
   unfold TgdV_L7
   rw [cDT (by simp only [];omega),chk_pos (by simp only [];omega)]
   simp only []
   rw [Int.toNat_natCast,w64 (by omega) (by omega)]
   by_cases h1:v.tags.getD i default≤last
   ·rw [if_pos h1,cDT h1]
   ·rw [if_neg h1,cDF h1]
    by_cases h2:255<v.tags.getD i default
    ·rw [if_pos h2,cDT h2]
    ·rw [if_neg h2,cDF h2];rfl
  by_cases h1:v.tags.getD i default≤last
  ·rw [if_pos h1] at hb;exact ⟨_,Iter_end hb,.inl rfl⟩
  rw [if_neg h1] at hb
  by_cases h2:255<v.tags.getD i default
  ·rw [if_pos h2] at hb;exact ⟨_,Iter_end hb,.inl rfl⟩
  rw [if_neg h2] at hb
  obtain ⟨r,h3,h4⟩:=tgd_loop sh v m1 hl k (i+1) (v.tags.getD i default) (by omega)
  refine ⟨r,by rw [Iter_next hb];exact h3,h4.imp id (fun h=>⟨h.1,?_,?_⟩)⟩
  ·rw [hd];exact List.pairwise_cons.2 ⟨fun g hg=>(h.2.2 g hg).1,h.2.1⟩
  ·rw [hd]
   intro g hg
   rcases List.mem_cons.1 hg with rfl|hg
   ·omega
   ·have:=h.2.2 g hg;omega
theorem tgd_tot (sh:Tgd) (v:Val) (hl:v.tags.length≤100000):∃ b,TgdV_F sh v=some b∧(b=true→v.num=0∧v.text=[]∧v.tags.length=v.items.length∧(0<sh.most→(v.tags.length:Int)=sh.most)∧v.tags.Pairwise (· < ·)∧∀ g,g∈v.tags→0<g∧g≤255):=by
 unfold TgdV_F
 by_cases h1:v.num=0
 ·by_cases h2:v.text=[]
  ·by_cases h3:v.tags.length=v.items.length
   ·by_cases h4:0<sh.most∧(v.tags.length:Int)≠sh.most
    ·refine ⟨false,?_,fun h=>by cases h⟩
     rw [h1,h2,h3,bneF,bneF,cDT h4.1,bne_iff_ne.2 (by rw [← h3];exact h4.2)];rfl
    ·have e:(cond (decide (0<sh.most)) (some ((v.items.length:Int) != sh.most)) (some false):Option Bool)=some false:=by
      by_cases h5:0<sh.most
      ·have:(v.items.length:Int)=sh.most:=by rw [← h3];exact Classical.byContradiction (fun h=>h4 ⟨h5,h⟩)
       rw [cDT h5,this,bneF]
      ·rw [cDF h5]
     have e1:(v.num != 0)=false:=by rw [h1];rfl
     have e2:(!(v.text == []))=false:=by rw [h2];rfl
     have e3:((v.tags.length:Int) != (v.items.length:Int))=false:=by rw [h3,bneF]
     rw [← h3] at e
     rw [e1,e2,e3,e]
     obtain ⟨r,h6,h7⟩:=tgd_loop sh v false hl v.tags.length 0 0 (by omega)
     have h6':Iter (TgdV_L7 sh v false) (0,0)=some r:=h6
     rcases h7 with h7|⟨h7,h8,h9⟩
     ·refine ⟨false,?_,fun h=>by cases h⟩
      show Option.bind (Iter (TgdV_L7 sh v false) (0,0)) _=_
      rw [h6',h7];rfl
     ·refine ⟨true,?_,fun _=>⟨h1,h2,h3,fun h5=>?_,by simpa using h8,by simpa using h9⟩⟩
      ·show Option.bind (Iter (TgdV_L7 sh v false) (0,0)) _=_
       rw [h6',h7];rfl
      ·exact Classical.byContradiction (fun h=>h4 ⟨h5,h⟩)
   ·refine ⟨false,?_,fun h=>by cases h⟩
    rw [h1,h2,bneF,bne_iff_ne.2 (show (v.tags.length:Int)≠(v.items.length:Int) by omega)];rfl
  ·refine ⟨false,?_,fun h=>by cases h⟩
   rw [h1,bneF,show (v.text == [])=false from by simpa using h2];rfl
 ·refine ⟨false,?_,fun h=>by cases h⟩
  rw [bne_iff_ne.2 h1];rfl

theorem keyed_tot (k:Int):∃ b,KeyedV_F k=some b∧(b=true↔k=1∨k=2∨k=3∨k=6∨k=4):=by
 by_cases h:k=1∨k=2∨k=3∨k=6∨k=4
 ·refine ⟨true,?_,⟨fun _=>h,fun _=>rfl⟩⟩
  rcases h with rfl|rfl|rfl|rfl|rfl<;>rfl
 ·refine ⟨false,?_,⟨fun h=>(by cases h),fun h'=>absurd h' h⟩⟩
  unfold KeyedV_F
  rw [beq_eq_false_iff_ne.2 (show k≠1 by omega),beq_eq_false_iff_ne.2 (show k≠2 by omega),beq_eq_false_iff_ne.2 (show k≠3 by omega),beq_eq_false_iff_ne.2 (show k≠6 by omega),beq_eq_false_iff_ne.2 (show k≠4 by omega)];rfl

theorem prs_body (sh:Prs) (v:Val) (m1:Bool) (hl:v.items.length≤100000) (i:Nat) (hi:i<v.items.length) (hi2:i % 2=0) :
  PrsV_L7 sh v m1 (i:Int)=some (.inr (.inl false))∨(PrsV_L7 sh v m1 (i:Int)=some (.inl ((i+2:Nat):Int))∧(0<i→∃ c,CmpV_F (v.items.getD (i-2) default) (v.items.getD i default)=some c∧c<0)):=by
 unfold PrsV_L7
 rw [cDT (by omega),chk_pos (by omega),Int.toNat_natCast]
 obtain ⟨b,hb,_⟩:=keyed_tot (v.items.getD i default).kind
 rw [hb,Option.bind_some]
 cases b with
 | false=>left;rfl
 | true =>
  rw [Bool.not_true,cond_false]
  have hw2:IntKind.i64.wrap ((i:Int)+2)=((i+2:Nat):Int):=by rw [w64 (by omega) (by omega)];rfl
  rw [hw2]
  by_cases h0:0<i
  ·rw [cDT (by omega),chk_pos (by omega)]
   by_cases hk:((v.items.getD i default).kind != (v.items.getD (Int.toNat 0) default).kind)=true
   ·rw [hk,cond_true];left;rfl
   ·rw [Bool.not_eq_true] at hk
    rw [hk,cond_false,w64 (x:=(i:Int)-2) (by omega) (by omega),chk_pos (by omega),show ((i:Int)-2).toNat=i-2 by omega]
    obtain ⟨c,hc⟩:=Cmp_tot (v.items.getD (i-2) default) (v.items.getD i default)
    rw [hc,Option.bind_some]
    by_cases h1:0≤c
    ·rw [cDT h1];left;rfl
    ·rw [cDF h1];right;exact ⟨rfl,fun _=>⟨c,rfl,by omega⟩⟩
  ·rw [cDF (by omega)];right;exact ⟨rfl,fun h=>absurd h h0⟩
theorem prs_loop (sh:Prs) (v:Val) (m1:Bool) (hl:v.items.length≤100000) (hev:v.items.length % 2=0):∀ (k i:Nat),i+2*k=v.items.length→i % 2=0 →
  ∃ r,Iter (PrsV_L7 sh v m1) (i:Int)=some r∧(r=.inl false∨(r=.inr ()∧∀ j,i≤j→j<v.items.length→j % 2=0→0<j→∃ c,CmpV_F (v.items.getD (j-2) default) (v.items.getD j default)=some c∧c<0))
 | 0,i,hi,hi2=>by
  refine ⟨.inr (),Iter_end (by unfold PrsV_L7;rw [cDF (by omega)]),.inr ⟨rfl,fun j h1 h2=>by omega⟩⟩
 | k+1,i,hi,hi2=>by
  rcases prs_body sh v m1 hl i (by omega) hi2 with hb|⟨hb,hc⟩
  ·exact ⟨_,Iter_end hb,.inl rfl⟩
  ·obtain ⟨r,h3,h4⟩:=prs_loop sh v m1 hl hev k (i+2) (by omega) (by omega)
   refine ⟨r,by rw [Iter_next hb];exact h3,h4.imp id (fun h=>⟨h.1,fun j h1 h2 h3 h5=>?_⟩)⟩
   by_cases hj:j=i
   ·subst hj;exact hc h5
   ·exact h.2 j (by omega) h2 h3 h5
theorem prs_tot (sh : Prs) (v : Val) (hl : v.items.length ≤ 100000) : ∃ b, PrsV_F sh v = some b ∧ (b = true → v.num = 0 ∧ v.text = [] ∧ v.tags = [] ∧ v.items.length % 2 = 0 ∧ keysUp v.items) := by
  unfold PrsV_F
  by_cases h1 : v.num = 0
  · have e1 : (v.num != 0) = false := by rw [h1]; rfl
    by_cases h2 : v.text = []
    · have e2 : (!(v.text == [])) = false := by rw [h2]; rfl
      by_cases h3 : v.tags = []
      · have e3 : decide (0 < (v.tags.length : Int)) = false := by rw [h3]; rfl
        have em : Int.tmod (v.items.length : Int) 2 = ((v.items.length % 2 : Nat) : Int) := by rw [Int.tmod_eq_emod_of_nonneg (by omega)]; omega
        rw [e1, e2, e3, em, chk_pos (by decide)]
        by_cases h4 : v.items.length % 2 = 0
        · have e4 : (((v.items.length % 2 : Nat) : Int) != 0) = false := by rw [h4]; rfl
          rw [e4]
          obtain ⟨r, h5, h6⟩ := prs_loop sh v false hl h4 (v.items.length / 2) 0 (by omega) rfl
          have h5' : Iter (PrsV_L7 sh v false) 0 = some r := h5
          rcases h6 with h6 | ⟨h6, h7⟩
          · refine ⟨false, ?_, fun h => by cases h⟩
            show Option.bind (Iter (PrsV_L7 sh v false) 0) _ = _
            rw [h5', h6]; rfl
          · refine ⟨true, ?_, fun _ => ⟨h1, h2, h3, h4, fun i hi => ?_⟩⟩
            · show Option.bind (Iter (PrsV_L7 sh v false) 0) _ = _
              rw [h5', h6]; rfl
            · have := h7 (2 * i + 2) (Nat.zero_le _) hi (by omega) (by omega)
              rw [show 2 * i + 2 - 2 = 2 * i by omega] at this
              exact this
        · have e4 : (((v.items.length % 2 : Nat) : Int) != 0) = true := by rw [bne_iff_ne]; omega
          rw [e4]
          exact ⟨false, rfl, fun h => by cases h⟩
      · have e3 : decide (0 < (v.tags.length : Int)) = true := decide_eq_true (by have : v.tags.length ≠ 0 := fun h => h3 (List.length_eq_zero_iff.1 h)
                                                                                  omega)
        rw [e1, e2, e3]
        exact ⟨false, rfl, fun h => by cases h⟩
    · have e2 : (!(v.text == [])) = true := by rw [beq_eq_false_iff_ne.2 h2]; rfl
      rw [e1, e2]
      exact ⟨false, rfl, fun h => by cases h⟩
  · rw [bne_iff_ne.2 h1]
    exact ⟨false, rfl, fun h => by cases h⟩

structure WellH (v:Val):Prop where
 k1:v.kind=1→∃ n,v=⟨1,n,[],[],[]⟩∧0≤n∧n≤1
 k2:v.kind=2∨v.kind=3→∃ n,v=⟨v.kind,n,[],[],[]⟩∧-9223372036854775808≤n∧n≤9223372036854775807
 k4:v.kind=4∨v.kind=5→∃ s,v=⟨v.kind,0,s,[],[]⟩∧(v.kind=4→badL s<0)
 k6:v.kind=6→∃ n,v=⟨6,n,[],[],[]⟩∧0≤n∧n≤9999
 k7:v.kind=7→∃ xs,v=⟨7,0,[],[],xs⟩
 k8:v.kind=8→∃ xs,v=⟨8,0,[],[],xs⟩∧xs.length % 2=0∧keysUp xs
 k9:v.kind=9→∃ gs xs,v=⟨9,0,[],gs,xs⟩∧gs.length=xs.length∧gs.Pairwise (· < ·)
 k10:v.kind=10→∃ g x,v=⟨10,0,[],[g],[x]⟩
theorem head_tot (v:Val) (hl:LenB v):∃ b,vheadF v=some b∧(b=true→WellH v):=by
 obtain ⟨hl1,hl2,hl3,_⟩:=hl
 obtain ⟨k,n,s,gs,xs⟩:=v
 simp only [] at hl1 hl2 hl3
 unfold vheadF
 simp only []
 by_cases h1:k=1
 ·rw [if_pos h1]
  obtain ⟨b,hb,h⟩:=sgl_tot ⟨0,1⟩ ⟨k,n,s,gs,xs⟩
  refine ⟨b,hb,fun hb=>?_⟩
  obtain ⟨rfl,rfl,rfl,a1,a2⟩:=h hb
  subst h1
  exact ⟨fun _=>⟨n,rfl,a1,a2⟩,fun h=>by simp at h,fun h=>by simp at h,fun h=>by simp at h,fun h=>by simp at h,fun h=>by simp at h,fun h=>by simp at h,fun h=>by simp at h⟩
 rw [if_neg h1]
 by_cases h2:k=2∨k=3
 ·rw [if_pos h2]
  obtain ⟨b,hb,h⟩:=sgl_tot ⟨-9223372036854775808,9223372036854775807⟩ ⟨k,n,s,gs,xs⟩
  refine ⟨b,hb,fun hb=>?_⟩
  obtain ⟨rfl,rfl,rfl,a1,a2⟩:=h hb
  exact ⟨fun h=>absurd h h1,fun _=>⟨n,rfl,a1,a2⟩,fun h=>by simp only [] at h;omega,fun h=>by simp only [] at h;omega,fun h=>by simp only [] at h;omega,fun h=>by simp only [] at h;omega,fun h=>by simp only [] at h;omega,fun h=>by simp only [] at h;omega⟩
 rw [if_neg h2]
 by_cases h6:k=6
 ·rw [if_pos h6]
  obtain ⟨b,hb,h⟩:=sgl_tot ⟨0,9999⟩ ⟨k,n,s,gs,xs⟩
  refine ⟨b,hb,fun hb=>?_⟩
  obtain ⟨rfl,rfl,rfl,a1,a2⟩:=h hb
  subst h6
  exact ⟨fun h=>by simp at h,fun h=>by simp at h,fun h=>by simp at h,fun _=>⟨n,rfl,a1,a2⟩,fun h=>by simp at h,fun h=>by simp at h,fun h=>by simp at h,fun h=>by simp at h⟩
 rw [if_neg h6]
 by_cases h4:k=4∨k=5
 ·rw [if_pos h4]
  obtain ⟨b,hb,h⟩:=wds_tot ⟨k == 4⟩ ⟨k,n,s,gs,xs⟩ hl3
  refine ⟨b,hb,fun hb=>?_⟩
  obtain ⟨rfl,rfl,rfl,a1⟩:=h hb
  exact ⟨fun h=>absurd h h1,fun h=>absurd h h2,fun _=>⟨s,rfl,fun h=>a1 (by simpa using h)⟩,fun h=>absurd h h6,fun h=>by simp only [] at h;omega,fun h=>by simp only [] at h;omega,fun h=>by simp only [] at h;omega,fun h=>by simp only [] at h;omega⟩
 rw [if_neg h4]
 by_cases h7:k=7
 ·rw [if_pos h7]
  obtain ⟨b,hb,h⟩:=mny_tot ⟨⟩ ⟨k,n,s,gs,xs⟩
  refine ⟨b,hb,fun hb=>?_⟩
  obtain ⟨rfl,rfl,rfl⟩:=h hb
  subst h7
  exact ⟨fun h=>by simp at h,fun h=>by simp at h,fun h=>by simp at h,fun h=>by simp at h,fun _=>⟨xs,rfl⟩,fun h=>by simp at h,fun h=>by simp at h,fun h=>by simp at h⟩
 rw [if_neg h7]
 by_cases h8:k=8
 ·rw [if_pos h8]
  obtain ⟨b,hb,h⟩:=prs_tot ⟨⟩ ⟨k,n,s,gs,xs⟩ hl1
  refine ⟨b,hb,fun hb=>?_⟩
  obtain ⟨rfl,rfl,rfl,a1,a2⟩:=h hb
  subst h8
  exact ⟨fun h=>by simp at h,fun h=>by simp at h,fun h=>by simp at h,fun h=>by simp at h,fun h=>by simp at h,fun _=>⟨xs,rfl,a1,a2⟩,fun h=>by simp at h,fun h=>by simp at h⟩
 rw [if_neg h8]
 by_cases h9:k=9
 ·rw [if_pos h9]
  obtain ⟨b,hb,h⟩:=tgd_tot ⟨0⟩ ⟨k,n,s,gs,xs⟩ hl2
  refine ⟨b,hb,fun hb=>?_⟩
  obtain ⟨rfl,rfl,a1,a2,a3,a4⟩:=h hb
  subst h9
  exact ⟨fun h=>by simp at h,fun h=>by simp at h,fun h=>by simp at h,fun h=>by simp at h,fun h=>by simp at h,fun h=>by simp at h,fun _=>⟨gs,xs,rfl,a1,a3⟩,fun h=>by simp at h⟩
 rw [if_neg h9]
 by_cases h10:k=10
 ·rw [if_pos h10]
  obtain ⟨b,hb,h⟩:=tgd_tot ⟨1⟩ ⟨k,n,s,gs,xs⟩ hl2
  refine ⟨b,hb,fun hb=>?_⟩
  obtain ⟨rfl,rfl,a1,a2,a3,a4⟩:=h hb
  subst h10
  have a2':=a2 (by decide)
  simp only [] at a1 a2'
  obtain ⟨g,rfl⟩:=List.length_eq_one_iff.1 (show gs.length=1 by omega)
  obtain ⟨x,rfl⟩:=List.length_eq_one_iff.1 (show xs.length=1 by omega)
  exact ⟨fun h=>by simp at h,fun h=>by simp at h,fun h=>by simp at h,fun h=>by simp at h,fun h=>by simp at h,fun h=>by simp at h,fun h=>by simp at h,fun _=>⟨g,x,rfl⟩⟩
 rw [if_neg h10]
 exact ⟨false,rfl,fun h=>by cases h⟩

theorem idx_tot (q:Val→Option Bool):∀ (l:List Val) (i:Int),0≤i→(∀ j,j<l.length→∃ b,q (l.getD j default)=some b)→∃ r,idxF q l i=some r∧(0≤r∨(r=-1∧∀ j,j<l.length→q (l.getD j default)=some false))
 | [],i,hi,_=>⟨-1,rfl,.inr ⟨rfl,fun j hj=>absurd hj (Nat.not_lt_zero _)⟩⟩
 | x::l,i,hi,h=>by
  obtain ⟨b,hb⟩:=h 0 (by simp)
  simp only [List.getD_cons_zero] at hb
  simp only [idxF]
  rw [hb,Option.bind_some]
  cases b with
  | true=>exact ⟨i,rfl,.inl hi⟩
  | false =>
   obtain ⟨r,h1,h2⟩:=idx_tot q l (i+1) (by omega) (fun j hj=>by have:=h (j+1) (by simpa using hj);simpa using this)
   refine ⟨r,h1,h2.imp id (fun h3=>⟨h3.1,fun j hj=>?_⟩)⟩
   cases j with
   | zero=>simpa using hb
   | succ j=>simpa using h3.2 j (by simpa using hj)
theorem deeps_ge:∀ {l:List Val} {i:Nat},i<l.length→(l.getD i default).deep≤Val.deeps l
 | [],i,h=>absurd h (Nat.not_lt_zero _)
 | x::xs,0,_=>by simp only [List.getD_cons_zero,Val.deeps];omega
 | x::xs,i+1,h=>by
  simp only [List.getD_cons_succ,Val.deeps]
  have:=deeps_ge (l:=xs) (i:=i) (by simpa using h)
  omega
theorem deeps_snoc:∀ (l:List Val) (x:Val),Val.deeps (l++[x])=max (Val.deeps l) x.deep
 | [],x=>by simp [Val.deeps]
 | y::l,x=>by simp only [List.cons_append,Val.deeps,deeps_snoc l x];omega
theorem well_tot:∀ (n:Nat) (v:Val),LenB v→v.deep≤n→∃ b,WellV_X n v=some b∧(b=true→WellH v∧∃ k,n=k+1∧∀ i,i<v.items.length→WellV_X k (v.items.getD i default)=some true)
 | 0,v,_,hd=>by rw [deep_eq] at hd;omega
 | n+1,v,hl,hd=>by
  obtain ⟨b,hb,hH⟩:=head_tot v hl
  obtain ⟨hl1,hl2,hl3,hl4⟩:=hl
  rw [deep_eq] at hd
  simp only [WellV_X]
  rw [if_pos (by omega),hb,Option.bind_some]
  cases b with
  | false=>exact ⟨false,rfl,fun h=>by cases h⟩
  | true =>
   have hq:∀ j,j<v.items.length→∃ b,vnotq (WellV_X n) (v.items.getD j default)=some b:=fun j hj=>by
    obtain ⟨b,hb,_⟩:=well_tot n _ (hl4 j hj) (by have:=deeps_ge hj;omega)
    exact ⟨!b,by unfold vnotq;rw [hb];rfl⟩
   obtain ⟨r,h1,h2⟩:=idx_tot _ v.items 0 (by omega) hq
   unfold vtailF
   rw [cond_true,h1,Option.bind_some]
   refine ⟨!(decide (0≤r)),rfl,fun hr=>⟨hH rfl,n,rfl,fun i hi=>?_⟩⟩
   rcases h2 with h2|⟨h2,h3⟩
   ·rw [decide_eq_true h2] at hr;cases hr
   ·have:=h3 i hi
    unfold vnotq at this
    obtain ⟨c,hc,hc2⟩:=bT this
    rw [hc]
    cases c
    ·simp at hc2
    ·rfl
end Go.Proofs

namespace Go.Proofs
open Go.Sy Go.Lib

theorem whGo_cons (tg:List Int) (f:Fld) (R:List Fld) (n:Nat):whGo tg (f::R) n=if n<tg.length∧tg.getD n default=f.tag then whGo tg R (n+1) else if f.ty.kind≠9 then false else whGo tg R n:=rfl
theorem whole_loop (l:List Dcl) (t:Ty) (v:Val) (R:List Fld) (hR:R.length≤1000) (hv:v.tags.length≤100000):∀ (k i n:Nat),i+k=R.length→n≤i→Iter (FWhole_L3 l t v R) ((n:Int),(i:Int))=some (cond (whGo v.tags (R.drop i) n) (.inr ()) (.inl 12))
 | 0,i,n,hi,hn=>by
  rw [List.drop_of_length_le (by omega)]
  exact Iter_end (by unfold FWhole_L3;rw [cDF (by simp only [];omega)];rfl)
 | k+1,i,n,hi,hn=>by
  have hd:R.drop i=R.getD i default::R.drop (i+1):=by rw [List.drop_eq_getElem_cons (by omega),List.getD_eq_getElem?_getD,List.getElem?_eq_getElem (by omega)];rfl
  have hb:FWhole_L3 l t v R ((n:Int),(i:Int))=if n<v.tags.length∧v.tags.getD n default=(R.getD i default).tag then some (.inl (((n+1:Nat):Int),((i+1:Nat):Int))) else if (R.getD i default).ty.kind≠9 then some (.inr (.inl 12)) else some (.inl ((n:Int),((i+1:Nat):Int))):=by
   unfold FWhole_L3
   rw [cDT (by simp only [];omega),chk_pos (by simp only [];omega)]
   simp only []
   rw [Int.toNat_natCast,Int.toNat_natCast,w64 (x:=(i:Int)+1) (by omega) (by omega)]
   have e9:(cond ((R.getD i default).ty.kind != 9) (some (.inr (.inl 12))) (some (.inl ((n:Int),(i:Int)+1))):Option ((Int×Int) ⊕ (Int ⊕ Unit)))=if (R.getD i default).ty.kind≠9 then some (.inr (.inl 12)) else some (.inl ((n:Int),((i+1:Nat):Int))):=by
    by_cases h:(R.getD i default).ty.kind≠9
    ·rw [if_pos h,bne_iff_ne.2 h];rfl
    ·rw [if_neg h,show ((R.getD i default).ty.kind != 9)=false from by simpa using h];rfl
   by_cases h1:n<v.tags.length
   ·rw [cDT (by omega),chk_pos (by omega),w64 (x:=(n:Int)+1) (by omega) (by omega)]
    by_cases h2:v.tags.getD n default=(R.getD i default).tag
    ·rw [if_pos ⟨h1,h2⟩,beq_iff_eq.2 h2];rfl
    ·rw [if_neg (fun h=>h2 h.2),beq_eq_false_iff_ne.2 h2,cond_false,e9]
   ·rw [cDF (by omega),if_neg (fun h=>h1 h.1),e9]
  rw [hd,whGo_cons]
  by_cases h1:n<v.tags.length∧v.tags.getD n default=(R.getD i default).tag
  ·rw [if_pos h1] at hb ⊢
   rw [Iter_next hb]
   exact whole_loop l t v R hR hv k (i+1) (n+1) (by omega) (by omega)
  ·rw [if_neg h1] at hb ⊢
   by_cases h2:(R.getD i default).ty.kind≠9
   ·rw [if_pos h2] at hb ⊢
    exact Iter_end hb
   ·rw [if_neg h2] at hb ⊢
    rw [Iter_next hb]
    exact whole_loop l t v R hR hv k (i+1) n (by omega) (by omega)
theorem whole_eq {l:List Dcl} (hS:Sch l) (t:Ty) (v:Val) (hv:v.tags.length≤100000):FWhole_F l t v=some (cond (whGo v.tags (rowsU l t.name) 0) 0 12):=by
 unfold FWhole_F
 rw [DRows_F,Option.bind_some]
 have h:=whole_loop l t v (rowsU l t.name) (hS.len _) hv (rowsU l t.name).length 0 0 (by omega) (Nat.le_refl _)
 have h':Iter (FWhole_L3 l t v (rowsU l t.name)) (0,0)=some (cond (whGo v.tags (rowsU l t.name) 0) (.inr ()) (.inl 12)):=h
 rw [h',Option.bind_some]
 cases whGo v.tags (rowsU l t.name) 0<;>rfl

theorem fits_u {l:List Dcl} {n:Nat} {u:Ty} {v:Val}:FFits_X l (n+1) u v=FFits_F l (FFits_X l n) u v:=rfl
theorem fits_plain {l:List Dcl} {rec:Ty→Val→Option Int} {u:Ty} {v:Val} (h:u.kind=1∨u.kind=2∨u.kind=3∨u.kind=4∨u.kind=5):FFits_F l rec u v=some (if u.kind=v.kind then 0 else 4):=by
 unfold FFits_F FKind_F
 by_cases he:u.kind=v.kind
 ·rw [if_pos he,← he]
  rcases h with h|h|h|h|h<;>rw [h]<;>rfl
 ·rw [if_neg he]
  rcases h with h|h|h|h|h<;>rw [h] at he ⊢
  ·show cond ((1:Int) == v.kind) (some 0) (some 4)=_;rw [beq_eq_false_iff_ne.2 he];rfl
  ·show cond ((2:Int) == v.kind) (some 0) (some 4)=_;rw [beq_eq_false_iff_ne.2 he];rfl
  ·show cond ((3:Int) == v.kind) (some 0) (some 4)=_;rw [beq_eq_false_iff_ne.2 he];rfl
  ·show cond ((4:Int) == v.kind) (some 0) (some 4)=_;rw [beq_eq_false_iff_ne.2 he];rfl
  ·show cond ((5:Int) == v.kind) (some 0) (some 4)=_;rw [beq_eq_false_iff_ne.2 he];rfl
theorem fits_many {l:List Dcl} {rec:Ty→Val→Option Int} {u:Ty} {v:Val} (h:u.kind=7∨u.kind=8):FFits_F l rec u v=FList_F l rec u v:=by
 unfold FFits_F
 rcases h with h|h<;>rw [h]<;>(cases FList_F l rec u v<;>rfl)
theorem fits_opt {l:List Dcl} {rec:Ty→Val→Option Int} {u:Ty} {v:Val} (h:u.kind=9) (hl:u.of.length=1):FFits_F l rec u v=rec (u.of.getD 0 default) v:=by
 unfold FFits_F
 rw [h,hl]
 show chk ((0:Int)≤0∧(0:Int)<((1:Nat):Int)) (Option.bind (rec (u.of.getD 0 default) v) some)=_
 rw [chk_pos (by decide)]
 cases rec (u.of.getD 0 default) v<;>rfl
theorem fits_named {l:List Dcl} {rec:Ty→Val→Option Int} {u:Ty} {v:Val} (h:u.kind=6):FFits_F l rec u v=FNamed_F l rec u v:=by
 unfold FFits_F
 rw [h]
 cases FNamed_F l rec u v<;>rfl

theorem each_tot {l:List Dcl} {rec:Ty→Val→Option Int} {t:Ty} {vs:List Val} (hl:vs.length≤100000) (Q:Nat→Prop) (h:∀ i,i<vs.length→∃ e,rec t (vs.getD i default)=some e∧(e=0→Q i)) :
  ∃ e,FEach_F l rec t vs=some e∧(e=0→∀ i,i<vs.length→Q i):=by
 unfold FEach_F
 obtain ⟨r,h1,h2⟩:=Iter_ex (body:=FEach_L1 l rec t vs) vs.length (.inr ()) (fun r=>∃ c:Int,r=.inl c∧c≠0) Q (by unfold FEach_L1;rw [cDF (by omega)]) (fun i hi=>by
  obtain ⟨e,he,hq⟩:=h i hi
  unfold FEach_L1
  rw [cDT (by omega),chk_pos (by omega),Int.toNat_natCast,he,Option.bind_some]
  by_cases h0:e=0
  ·left
   rw [h0,w64 (by omega) (by omega)]
   exact ⟨rfl,hq h0⟩
  ·right
   rw [bne_iff_ne.2 h0]
   exact ⟨_,rfl,e,rfl,h0⟩)
 rw [h1,Option.bind_some]
 rcases h2 with ⟨c,rfl,hc⟩|⟨rfl,hq⟩
 ·exact ⟨c,rfl,fun h=>absurd h hc⟩
 ·exact ⟨0,rfl,fun _=>hq⟩
theorem pairs_fit {l:List Dcl} {rec:Ty→Val→Option Int} {t:Ty} {v:Val} (h8:t.kind=8) (h2l:t.of.length=2) (hv:v.kind=8) (hl:v.items.length≤100000) (Q:Nat→Prop) (h:∀ i,i<v.items.length→∃ e,rec (t.of.getD (i % 2) default) (v.items.getD i default)=some e∧(e=0→Q i)) :
  ∃ e,FList_F l rec t v=some e∧(e=0→∀ i,i<v.items.length→Q i):=by
 unfold FList_F
 rw [h8,h2l,hv]
 obtain ⟨r,h1,h2⟩:=Iter_ex (body:=FList_L9 l rec t v) v.items.length (.inr ()) (fun r=>∃ c:Int,r=.inl c∧c≠0) Q (by unfold FList_L9;rw [cDF (by omega)]) (fun i hi=>by
  obtain ⟨e,he,hq⟩:=h i hi
  have em:Int.tmod (i:Int) 2=((i % 2:Nat):Int):=by rw [Int.tmod_eq_emod_of_nonneg (by omega)];omega
  unfold FList_L9
  rw [cDT (by omega),chk_pos (by omega),chk_pos (by decide),em,chk_pos (by omega),Int.toNat_natCast,Int.toNat_natCast,he,Option.bind_some]
  by_cases h0:e=0
  ·left
   rw [h0,w64 (by omega) (by omega)]
   exact ⟨rfl,hq h0⟩
  ·right
   rw [bne_iff_ne.2 h0]
   exact ⟨_,rfl,e,rfl,h0⟩)
 show ∃ e,Option.bind (Iter (FList_L9 l rec t v) 0) _=some e∧_
 rw [h1,Option.bind_some]
 rcases h2 with ⟨c,rfl,hc⟩|⟨rfl,hq⟩
 ·exact ⟨c,rfl,fun h=>absurd h hc⟩
 ·exact ⟨0,rfl,fun _=>hq⟩
theorem rows_fit {l:List Dcl} {rec:Ty→Val→Option Int} {t:Ty} {v:Val} (hlen:v.tags.length=v.items.length) (hl:v.tags.length≤100000) (Q:Nat→Prop) (h:∀ i,i<v.tags.length→hasJ (rowsU l t.name) (v.tags.getD i default)=true→∃ e,rec (fldJ (rowsU l t.name) (v.tags.getD i default)).ty (v.items.getD i default)=some e∧(e=0→Q i)) :
  ∃ e,FRows_F l rec t v=some e∧(e=0→∀ i,i<v.tags.length→hasJ (rowsU l t.name) (v.tags.getD i default)=true∧Q i):=by
 unfold FRows_F
 obtain ⟨r,h1,h2⟩:=Iter_ex (body:=FRows_L1 l rec t v) v.tags.length (.inr ()) (fun r=>∃ c:Int,r=.inl c∧c≠0) (fun i=>hasJ (rowsU l t.name) (v.tags.getD i default)=true∧Q i) (by unfold FRows_L1;rw [cDF (by omega)]) (fun i hi=>by
  unfold FRows_L1
  rw [cDT (by omega),chk_pos (by omega),Int.toNat_natCast,DRow_F2,Option.bind_some]
  simp only []
  cases hh:hasJ (rowsU l t.name) (v.tags.getD i default) with
  | false =>
   right
   exact ⟨_,rfl,9,rfl,by decide⟩
  | true =>
   obtain ⟨e,he,hq⟩:=h i hi hh
   rw [Bool.not_true,cond_false,chk_pos (by omega),he,Option.bind_some]
   by_cases h0:e=0
   ·left
    rw [h0,w64 (by omega) (by omega)]
    exact ⟨rfl,rfl,hq h0⟩
   ·right
    rw [bne_iff_ne.2 h0]
    exact ⟨_,rfl,e,rfl,h0⟩)
 rw [h1,Option.bind_some]
 rcases h2 with ⟨c,rfl,hc⟩|⟨rfl,hq⟩
 ·exact ⟨c,rfl,fun h=>absurd h hc⟩
 ·exact ⟨0,rfl,fun _=>hq⟩

theorem named_enum {l:List Dcl} {rec:Ty→Val→Option Int} {t:Ty} {v:Val} (hk:kindL l t.name=3):FNamed_F l rec t v=some (if v.kind=6 then (if hasJ (rowsU l t.name) v.num=true then 0 else 9) else 4):=by
 unfold FNamed_F
 rw [DKind_F,Option.bind_some,hk,DRow_F2]
 by_cases h6:v.kind=6
 ·rw [if_pos h6,h6]
  cases hasJ (rowsU l t.name) v.num<;>rfl
 ·rw [if_neg h6]
  show cond (v.kind != 6) (some 4) _=_
  rw [bne_iff_ne.2 h6];rfl
theorem named_union {l:List Dcl} {rec:Ty→Val→Option Int} {t:Ty} {v:Val} (hk:kindL l t.name=2):FNamed_F l rec t v=if v.kind=10 then FRows_F l rec t v else some 4:=by
 unfold FNamed_F
 rw [DKind_F,Option.bind_some,hk]
 by_cases h6:v.kind=10
 ·rw [if_pos h6,h6]
  show Option.bind (FRows_F l rec t v) _=_
  cases FRows_F l rec t v with
  | none=>rfl
  | some e=>cases hb:e != 0<;>(rw [Option.bind_some,hb];rfl)
 ·rw [if_neg h6]
  show cond (v.kind != 10) (some 4) _=_
  rw [bne_iff_ne.2 h6];rfl
theorem named_struct {l:List Dcl} {rec:Ty→Val→Option Int} {t:Ty} {v:Val} (hk:kindL l t.name=1):FNamed_F l rec t v=if v.kind=9 then Option.bind (FRows_F l rec t v) (fun e=>if e≠0 then some e else FWhole_F l t v) else some 4:=by
 unfold FNamed_F
 rw [DKind_F,Option.bind_some,hk]
 by_cases h6:v.kind=9
 ·rw [if_pos h6,h6]
  show Option.bind (FRows_F l rec t v) _=_
  cases FRows_F l rec t v with
  | none=>rfl
  | some e =>
   rw [Option.bind_some,Option.bind_some]
   by_cases he:e≠0
   ·rw [if_pos he,bne_iff_ne.2 he];rfl
   ·rw [if_neg he,show (e != 0)=false from by simpa using he]
    show Option.bind (FWhole_F l t v) some=_
    cases FWhole_F l t v<;>rfl
 ·rw [if_neg h6]
  show cond (v.kind != 9) (some 4) _=_
  rw [bne_iff_ne.2 h6];rfl

theorem fits_tot {l:List Dcl} (hS:Sch l):∀ (d n k:Nat) (b:Bool) (t:Ty) (v:Val),TyOK l b t→LenB v→WellV_X k v=some true→v.deep≤k→v.deep≤d→2*d≤n→∃ e,FFits_X l n t v=some e∧(e=0→Fit l d t v)
 | 0,n,k,b,t,v,_,_,_,_,hd,_=>by rw [deep_eq] at hd;omega
 | d+1,n,k,b,t,v,hT,hL,hW,hk,hd,hn=>by
  obtain ⟨hI,h9⟩:=strip_ok hT
  obtain ⟨b',hb',hw⟩:=well_tot k v hL hk
  rw [hW] at hb'
  obtain ⟨hH,k',rfl,hW'⟩:=hw (osi hb').symm
  have hdk:=hk
  rw [deep_eq] at hd hdk
  obtain ⟨hl1,hl2,hl3,hl4⟩:=hL
  have hK:=hI.kind
  have core:∀ m,2*d+1≤m→∃ e,FFits_X l m (strip t) v=some e∧(e=0→Fit l (d+1) t v):=by
   intro m hm
   obtain ⟨m,rfl⟩:∃ k,m=k+1:=⟨m-1,by omega⟩
   have IH:∀ b t i,TyOK l b t→i<v.items.length→∃ e,FFits_X l m t (v.items.getD i default)=some e∧(e=0→Fit l d t (v.items.getD i default)):=fun b t i hT hi=>by
    have:=deeps_ge hi
    exact fits_tot hS d m k' b t _ hT (hl4 i hi) (hW' i hi) (by omega) (by omega) (by omega)
   rw [fits_u]
   by_cases hp:(strip t).kind=1∨(strip t).kind=2∨(strip t).kind=3∨(strip t).kind=4∨(strip t).kind=5
   ·rw [fits_plain hp]
    refine ⟨_,rfl,fun he=>?_⟩
    by_cases hkd:(strip t).kind=v.kind
    ·rcases hp with hp|hp|hp|hp|hp
     ·obtain ⟨n,hv,a1,a2⟩:=hH.k1 (by omega)
      rw [hv];exact .bool hp a1 a2
     ·obtain ⟨n,hv,a1,a2⟩:=hH.k2 (by omega)
      rw [hv,← hkd];exact .num (.inl hp) a1 a2
     ·obtain ⟨n,hv,a1,a2⟩:=hH.k2 (by omega)
      rw [hv,← hkd];exact .num (.inr hp) a1 a2
     ·obtain ⟨n,hv,a1⟩:=hH.k4 (by omega)
      rw [hv,← hkd];exact .text (.inl hp) (fun h=>a1 (by omega))
     ·obtain ⟨n,hv,a1⟩:=hH.k4 (by omega)
      rw [hv,← hkd];exact .text (.inr hp) (fun h=>a1 (by omega))
    ·rw [if_neg hkd] at he;cases he
   by_cases h7:(strip t).kind=7
   ·rw [fits_many (.inl h7)]
    have hl:=hI.len.1 h7
    unfold FList_F
    rw [h7,hl]
    by_cases hv7:v.kind=7
    ·obtain ⟨e,h1,h2⟩:=each_tot (l:=l) (rec:=FFits_X l m) (t:=(strip t).of.getD 0 default) hl1 (fun i=>Fit l d ((strip t).of.getD 0 default) (v.items.getD i default)) (fun i hi=>IH true _ i (hI.sub 0 (by omega)) hi)
     refine ⟨e,?_,fun he=>?_⟩
     ·rw [hv7]
      show chk ((0:Int)≤0∧(0:Int)<((1:Nat):Int)) (Option.bind (FEach_F l (FFits_X l m) ((strip t).of.getD 0 default) v.items) some)=_
      rw [chk_pos (by decide),h1];rfl
     ·obtain ⟨xs,hv⟩:=hH.k7 hv7
      have:=h2 he
      rw [hv] at this ⊢
      exact .list h7 this
    ·refine ⟨4,?_,fun he=>by cases he⟩
     show cond (v.kind != 7) (some 4) _=_
     rw [bne_iff_ne.2 hv7];rfl
   by_cases h8:(strip t).kind=8
   ·rw [fits_many (.inr h8)]
    have hl:=hI.len.2 h8
    by_cases hv8:v.kind=8
    ·obtain ⟨e,h1,h2⟩:=pairs_fit (l:=l) (rec:=FFits_X l m) h8 hl hv8 hl1 (fun i=>Fit l d ((strip t).of.getD (i % 2) default) (v.items.getD i default)) (fun i hi=>IH true _ i (hI.sub (i % 2) (by omega)) hi)
     refine ⟨e,h1,fun he=>?_⟩
     obtain ⟨xs,hv,a1,a2⟩:=hH.k8 hv8
     have:=h2 he
     rw [hv] at this ⊢
     exact .map h8 a1 a2 this
    ·refine ⟨4,?_,fun he=>by cases he⟩
     unfold FList_F
     rw [h8,hl]
     show cond (v.kind != 8) (some 4) _=_
     rw [bne_iff_ne.2 hv8];rfl
   have h6:(strip t).kind=6:=by omega
   rw [fits_named h6]
   rcases hI.six h6 with hk1|hk2|hk3
   ·rw [named_struct hk1]
    by_cases hv9:v.kind=9
    ·rw [if_pos hv9]
     obtain ⟨gs,xs,hv,a1,a2⟩:=hH.k9 hv9
     have hlen:v.tags.length=v.items.length:=by rw [hv];exact a1
     obtain ⟨e,h1,h2⟩:=rows_fit (l:=l) (rec:=FFits_X l m) (t:=strip t) hlen hl2 (fun i=>Fit l d (fldJ (rowsU l (strip t).name) (v.tags.getD i default)).ty (v.items.getD i default)) (fun i hi hh=>IH false _ i (row_ty hS (by omega) hh).1 (by omega))
     rw [h1,Option.bind_some]
     by_cases he:e≠0
     ·rw [if_pos he];exact ⟨e,rfl,fun h=>absurd h he⟩
     ·rw [if_neg he,whole_eq hS _ _ hl2]
      refine ⟨_,rfl,fun h0=>?_⟩
      have hq:=h2 (by omega)
      cases hwh:whGo v.tags (rowsU l (strip t).name) 0 with
      | true =>
       rw [hv] at hq hwh ⊢
       exact .struct h6 hk1 a1 a2 (fun i hi=>(hq i hi).1) (fun i hi=>(hq i hi).2) hwh
      | false=>rw [hwh] at h0;cases h0
    ·rw [if_neg hv9];exact ⟨4,rfl,fun he=>by cases he⟩
   ·rw [named_union hk2]
    by_cases hv10:v.kind=10
    ·rw [if_pos hv10]
     obtain ⟨g,x,hv⟩:=hH.k10 hv10
     obtain ⟨e,h1,h2⟩:=rows_fit (l:=l) (rec:=FFits_X l m) (t:=strip t) (v:=v) (by rw [hv];rfl) hl2 (fun i=>Fit l d (fldJ (rowsU l (strip t).name) (v.tags.getD i default)).ty (v.items.getD i default)) (fun i hi hh=>IH false _ i (row_ty hS (by omega) hh).1 (by rw [hv] at hi ⊢;exact hi))
     refine ⟨e,h1,fun he=>?_⟩
     have hq:=h2 he 0 (by rw [hv];exact Nat.one_pos)
     rw [hv] at hq ⊢
     exact .union h6 hk2 hq.1 hq.2
    ·rw [if_neg hv10];exact ⟨4,rfl,fun he=>by cases he⟩
   ·rw [named_enum hk3]
    refine ⟨_,rfl,fun he=>?_⟩
    by_cases hv6:v.kind=6
    ·rw [if_pos hv6] at he
     obtain ⟨n,hv,a1,a2⟩:=hH.k6 hv6
     by_cases hh:hasJ (rowsU l (strip t).name) v.num=true
     ·rw [hv] at hh ⊢;exact .enum h6 hk3 a1 a2 hh
     ·rw [if_neg hh] at he;cases he
    ·rw [if_neg hv6] at he;cases he
  by_cases hk9:t.kind=9
  ·obtain ⟨n,rfl⟩:∃ k,n=k+1:=⟨n-1,by omega⟩
   have:=core n (by omega)
   rw [show strip t=t.of.getD 0 default from if_pos hk9] at this
   rw [fits_u,fits_opt hk9 (h9 hk9)]
   exact this
  ·have:=core n (by omega)
   rw [strip_ne hk9] at this
   exact this
end Go.Proofs

namespace Go.Proofs
open Go.Sy Go.Lib

theorem well_all (m:Nat) (v:Val) (hl:v.items.length≤100000) (hh:vheadF v=some true) (hi:∀ i,i<v.items.length→WellV_X m (v.items.getD i default)=some true):WellV_X (m+1) v=some true:=by
 simp only [WellV_X]
 rw [if_pos (by omega),hh,Option.bind_some]
 obtain ⟨r,h1,h2⟩:=idx_tot (vnotq (WellV_X m)) v.items 0 (by omega) (fun j hj=>⟨false,by unfold vnotq;rw [hi j hj];rfl⟩)
 unfold vtailF
 have hr:r=-1:=by
  have key:∀ (l:List Val) (i:Int),(∀ j,j<l.length→vnotq (WellV_X m) (l.getD j default)=some false)→idxF (vnotq (WellV_X m)) l i=some (-1):=by
   intro l
   induction l with
   | nil=>intro i _;rfl
   | cons x l ih =>
    intro i h
    simp only [idxF]
    have h0:=h 0 (by simp)
    simp only [List.getD_cons_zero] at h0
    rw [h0,Option.bind_some]
    exact ih (i+1) (fun j hj=>by have:=h (j+1) (by simpa using hj);simpa using this)
  have:=key v.items 0 (fun j hj=>by unfold vnotq;rw [hi j hj];rfl)
  rw [h1] at this
  exact osi this
 rw [cond_true,h1,Option.bind_some,hr]
 rfl
theorem sgl_ok {sh:Sgl} {k n:Int} (h1:sh.least≤n) (h2:n≤sh.most):SglV_F sh ⟨k,n,[],[],[]⟩=some true:=by
 unfold SglV_F
 rw [bare_eq]
 show (cond (decide (sh.least≤n)) (some (decide (n≤sh.most))) (some false)).bind _=_
 rw [decide_eq_true h1,decide_eq_true h2];rfl
theorem wds_ok {sh:Wds} {k:Int} {s:List UInt8} (hl:s.length≤100000) (h:sh.right=true→badL s<0):WdsV_F sh ⟨k,0,s,[],[]⟩=some true:=by
 unfold WdsV_F ValidV_F
 rw [bare_eq,chk_pos (by simp only [];omega)]
 cases hr:sh.right with
 | false=>rfl
 | true =>
  show Option.bind (some (decide (badL s<0))) _=_
  rw [decide_eq_true (h hr)];rfl
theorem tgd_ok (most k:Int) {gs:List Int} {xs:List Val} (hl:gs.length=xs.length) (hlen:gs.length≤100000) (hmost:0<most→(gs.length:Int)=most) (hr:gs.Pairwise (· < ·)) (hb:∀ x,x∈gs→0<x∧x≤255):TgdV_F ⟨most⟩ ⟨k,0,[],gs,xs⟩=some true:=by
 obtain ⟨b,h1,h2⟩:=tgd_tot ⟨most⟩ ⟨k,0,[],gs,xs⟩ hlen
 have e:(cond (decide (0<most)) (some ((gs.length:Int) != most)) (some false):Option Bool)=some false:=by
  by_cases h5:0<most
  ·rw [cDT h5,hmost h5,bneF]
  ·rw [cDF h5]
 have key:∀ (n i:Nat) (last:Int),i+n=gs.length→(∀ j,i≤j→j<gs.length→last<gs.getD j default)→Iter (TgdV_L7 ⟨most⟩ ⟨k,0,[],gs,xs⟩ false) (last,(i:Int))=some (.inr ()):=by
  intro n
  induction n with
  | zero=>intro i last hi _;exact Iter_end (by unfold TgdV_L7;rw [cDF (by simp only [];omega)])
  | succ n ih =>
   intro i last hi hlast
   have hi':i<gs.length:=by omega
   have hmem:gs.getD i default∈gs:=by rw [List.getD_eq_getElem?_getD,List.getElem?_eq_getElem hi'];exact List.getElem_mem hi'
   have hbi:=hb _ hmem
   have hl2:=hlast i (Nat.le_refl _) hi'
   have hbody:TgdV_L7 ⟨most⟩ ⟨k,0,[],gs,xs⟩ false (last,(i:Int))=some (.inl (gs.getD i default,((i+1:Nat):Int))):=by
    unfold TgdV_L7
    rw [cDT (by simp only [];omega),chk_pos (by simp only [];omega)]
    simp only []
    rw [Int.toNat_natCast,cDF (by omega),cDF (by omega),w64 (by omega) (by omega)];rfl
   rw [Iter_next hbody]
   exact ih (i+1) _ (by omega) (fun j h1 h2=>getD_pw hr (by omega) h2)
 have h0:=key gs.length 0 0 (by omega) (fun j _ hj=>by
  have hmem:gs.getD j default∈gs:=by rw [List.getD_eq_getElem?_getD,List.getElem?_eq_getElem hj];exact List.getElem_mem hj
  exact (hb _ hmem).1)
 have h0':Iter (TgdV_L7 ⟨most⟩ ⟨k,0,[],gs,xs⟩ false) (0,0)=some (.inr ()):=h0
 unfold TgdV_F
 simp only []
 have e3:((gs.length:Int) != (xs.length:Int))=false:=by rw [hl,bneF]
 rw [show ((0:Int) != 0)=false from rfl,show (!(([]:List UInt8) == []))=false from rfl,e3,e]
 show Option.bind (Iter (TgdV_L7 ⟨most⟩ ⟨k,0,[],gs,xs⟩ false) (0,0)) _=_
 rw [h0'];rfl
theorem prs_ok (k:Int) {xs:List Val} (hl:xs.length≤100000) (hev:xs.length % 2=0) (hup:keysUp xs) (K:Int) (hK:KeyedV_F K=some true) (hk:∀ i,i<xs.length→i % 2=0→(xs.getD i default).kind=K):PrsV_F ⟨⟩ ⟨k,0,[],[],xs⟩=some true:=by
 have key:∀ (n i:Nat),i+2*n=xs.length→i % 2=0→Iter (PrsV_L7 ⟨⟩ ⟨k,0,[],[],xs⟩ false) (i:Int)=some (.inr ()):=by
  intro n
  induction n with
  | zero=>intro i hi _;exact Iter_end (by unfold PrsV_L7;rw [cDF (by simp only [];omega)])
  | succ n ih =>
   intro i hi hi2
   have hbody:PrsV_L7 ⟨⟩ ⟨k,0,[],[],xs⟩ false (i:Int)=some (.inl ((i+2:Nat):Int)):=by
    unfold PrsV_L7
    simp only []
    rw [cDT (by omega),chk_pos (by omega),Int.toNat_natCast,hk i (by omega) hi2,hK,Option.bind_some,Bool.not_true,cond_false]
    have hw2:IntKind.i64.wrap ((i:Int)+2)=((i+2:Nat):Int):=by rw [w64 (by omega) (by omega)];rfl
    rw [hw2]
    by_cases h0:0<i
    ·have e0:(xs.getD (Int.toNat 0) default).kind=K:=hk 0 (by omega) rfl
     rw [cDT (by omega),chk_pos (by omega),e0,bneF,cond_false,w64 (x:=(i:Int)-2) (by omega) (by omega),chk_pos (by omega),show ((i:Int)-2).toNat=i-2 by omega]
     obtain ⟨c,hc,hc2⟩:=hup (i / 2-1) (by omega)
     rw [show 2*(i / 2-1)=i-2 by omega,show i-2+2=i by omega] at hc
     rw [hc,Option.bind_some,cDF (by omega)]
    ·rw [cDF (by omega)]
   rw [Iter_next hbody]
   exact ih (i+2) (by omega) (by omega)
 have h0:=key (xs.length / 2) 0 (by omega) rfl
 have h0':Iter (PrsV_L7 ⟨⟩ ⟨k,0,[],[],xs⟩ false) 0=some (.inr ()):=h0
 have em:Int.tmod (xs.length:Int) 2=((xs.length % 2:Nat):Int):=by rw [Int.tmod_eq_emod_of_nonneg (by omega)];omega
 unfold PrsV_F
 simp only []
 rw [em,hev,show ((0:Int) != 0)=false from rfl,show (!(([]:List UInt8) == []))=false from rfl,chk_pos (by decide)]
 show Option.bind (Iter (PrsV_L7 ⟨⟩ ⟨k,0,[],[],xs⟩ false) 0) _=_
 rw [h0'];rfl

theorem fit_well {l:List Dcl} (hS:Sch l):∀ (d:Nat) (b:Bool) (t:Ty) (v:Val),TyOK l b t→Fit l d t v→LenB v→v.deep≤d∧∀ n,d≤n→WellV_X n v=some true
 | 0,b,t,v,hT,hF,hL=>by have:=fit_pos hF;omega
 | d+1,b,t,v,hT,hF,hL=>by
  obtain ⟨hI,h9⟩:=strip_ok hT
  obtain ⟨hl1,hl2,hl3,hl4⟩:=hL
  have step:(∀ i,i<v.items.length→∃ b t,TyOK l b t∧Fit l d t (v.items.getD i default))→vheadF v=some true→v.deep≤d+1∧∀ n,d+1≤n→WellV_X n v=some true:=by
   intro h1 h2
   have IH:∀ i,i<v.items.length→(v.items.getD i default).deep≤d∧∀ n,d≤n→WellV_X n (v.items.getD i default)=some true:=fun i hi=>by
    obtain ⟨b,t,a1,a2⟩:=h1 i hi
    exact fit_well hS d b t _ a1 a2 (hl4 i hi)
   refine ⟨?_,fun n hn=>?_⟩
   ·rw [deep_eq]
    have:=deeps_le (l:=v.items) (d:=d) (fun i hi=>(IH i hi).1)
    omega
   ·obtain ⟨n,rfl⟩:∃ k,n=k+1:=⟨n-1,by omega⟩
    exact well_all n v hl1 h2 (fun i hi=>(IH i hi).2 n (by omega))
  have none:∀ i,i<([]:List Val).length→∃ b t,TyOK l b t∧Fit l d t (([]:List Val).getD i default):=fun i hi=>absurd hi (Nat.not_lt_zero _)
  cases hF with
  | bool h1 h2 h3=>exact step none (by unfold vheadF;simp only [];rw [if_pos trivial];exact sgl_ok h2 h3)
  | num h1 h2 h3=>exact step none (by unfold vheadF;simp only [];rw [if_neg (by omega),if_pos h1];exact sgl_ok h2 h3)
  | text h1 h2=>exact step none (by unfold vheadF;simp only [];rw [if_neg (by omega),if_neg (by omega),if_neg (by omega),if_pos h1];exact wds_ok hl3 (fun h=>h2 (by simpa using h)))
  | list h1 h2 =>
   have hl:=hI.len.1 h1
   exact step (fun i hi=>⟨true,_,hI.sub 0 (by omega),h2 i hi⟩) rfl
  | map h1 h2 h3 h4 =>
   rename_i xs
   have hl:=hI.len.2 h1
   have hkey:=hI.key h1
   refine step (fun i hi=>⟨true,_,hI.sub (i % 2) (by omega),h4 i hi⟩) ?_
   have hkp:=fun i (hi:i<xs.length) (h0:i % 2=0)=>key_plain hkey (by have:=h4 i hi;rw [h0] at this;exact this)
   unfold vheadF
   simp only []
   refine prs_ok 8 hl1 h2 h3 ((strip t).of.getD 0 default).kind ?_ (fun i hi h0=>?_)
   ·obtain ⟨b,hb,hb2⟩:=keyed_tot ((strip t).of.getD 0 default).kind
    rw [hb]
    congr 1
    rw [hb2]
    unfold KeyOK at hkey
    omega
   ·have:=hkp i hi h0
    by_cases h6:((strip t).of.getD 0 default).kind=6
    ·rw [this.2.2 h6,h6]
    ·exact this.2.1 h6
  | enum h1 h2 h3 h4 h5=>exact step none (by unfold vheadF;simp only [];exact sgl_ok h3 h4)
  | union h1 h2 h3 h4 =>
   rename_i g x
   obtain ⟨hTg,hg1,hg2⟩:=row_ty hS (nm:=(strip t).name) (g:=g) (by omega) h3
   refine step (fun i hi=>?_) ?_
   ·have hi':i<1:=hi
    obtain rfl:i=0:=by omega
    exact ⟨false,_,hTg,h4⟩
   ·show TgdV_F ⟨1⟩ ⟨10,0,[],[g],[x]⟩=some true
    exact tgd_ok 1 10 rfl hl2 (fun _=>rfl) (List.pairwise_singleton _ _) (fun y hy=>by rw [List.mem_singleton] at hy;omega)
  | struct h1 h2 h3 h4 h5 h6 h7 =>
   rename_i gs xs
   refine step (fun i hi=>?_) ?_
   ·have hi':i<gs.length:=by rw [h3];exact hi
    exact ⟨false,_,(row_ty hS (by omega) (h5 i hi')).1,h6 i hi'⟩
   ·show TgdV_F ⟨0⟩ ⟨9,0,[],gs,xs⟩=some true
    exact tgd_ok 0 9 h3 hl2 (fun h=>absurd h (by decide)) h4 (fun y hy=>by
     obtain ⟨i,hi,rfl⟩:=List.mem_iff_getElem.1 hy
     have:=(row_ty hS (nm:=(strip t).name) (by omega) (h5 i hi)).2
     rw [List.getD_eq_getElem?_getD,List.getElem?_eq_getElem hi] at this
     simp only [Option.getD_some] at this
     omega)

theorem each_ok {l:List Dcl} {rec:Ty→Val→Option Int} {t:Ty} {vs:List Val} (hl:vs.length≤100000) (h:∀ i,i<vs.length→rec t (vs.getD i default)=some 0):FEach_F l rec t vs=some 0:=by
 unfold FEach_F
 rw [Iter_go (body:=FEach_L1 l rec t vs) vs.length (.inr ()) (fun i hi=>by
  unfold FEach_L1
  rw [cDT (by omega),chk_pos (by omega),Int.toNat_natCast,h i hi,w64 (by omega) (by omega)];rfl) (by unfold FEach_L1;rw [cDF (by omega)])]
 rfl
theorem pairs_ok {l:List Dcl} {rec:Ty→Val→Option Int} {t:Ty} {v:Val} (h8:t.kind=8) (h2l:t.of.length=2) (hv:v.kind=8) (hl:v.items.length≤100000) (h:∀ i,i<v.items.length→rec (t.of.getD (i % 2) default) (v.items.getD i default)=some 0):FList_F l rec t v=some 0:=by
 unfold FList_F
 rw [h8,h2l,hv]
 show Option.bind (Iter (FList_L9 l rec t v) 0) _=_
 rw [Iter_go (body:=FList_L9 l rec t v) v.items.length (.inr ()) (fun i hi=>by
  have em:Int.tmod (i:Int) 2=((i % 2:Nat):Int):=by rw [Int.tmod_eq_emod_of_nonneg (by omega)];omega
  unfold FList_L9
  rw [cDT (by omega),chk_pos (by omega),chk_pos (by decide),em,chk_pos (by omega),Int.toNat_natCast,Int.toNat_natCast,h i hi,w64 (by omega) (by omega)];rfl) (by unfold FList_L9;rw [cDF (by omega)])]
 rfl
theorem rows_okF {l:List Dcl} {rec:Ty→Val→Option Int} {t:Ty} {v:Val} (hlen:v.tags.length=v.items.length) (hl:v.tags.length≤100000) (h:∀ i,i<v.tags.length→hasJ (rowsU l t.name) (v.tags.getD i default)=true∧rec (fldJ (rowsU l t.name) (v.tags.getD i default)).ty (v.items.getD i default)=some 0):FRows_F l rec t v=some 0:=by
 unfold FRows_F
 rw [Iter_go (body:=FRows_L1 l rec t v) v.tags.length (.inr ()) (fun i hi=>by
  unfold FRows_L1
  rw [cDT (by omega),chk_pos (by omega),Int.toNat_natCast,DRow_F2,Option.bind_some]
  simp only []
  rw [(h i hi).1,Bool.not_true,cond_false,chk_pos (by omega),(h i hi).2,w64 (by omega) (by omega)];rfl) (by unfold FRows_L1;rw [cDF (by omega)])]
 rfl
theorem fit_fits {l:List Dcl} (hS:Sch l):∀ (d n:Nat) (b:Bool) (t:Ty) (v:Val),TyOK l b t→Fit l d t v→LenB v→2*d≤n→FFits_X l n t v=some 0
 | 0,n,b,t,v,hT,hF,hL,hn=>by have:=fit_pos hF;omega
 | d+1,n,b,t,v,hT,hF,hL,hn=>by
  obtain ⟨hI,h9⟩:=strip_ok hT
  obtain ⟨hl1,hl2,hl3,hl4⟩:=hL
  have core:∀ m,2*d+1≤m→FFits_X l m (strip t) v=some 0:=by
   intro m hm
   obtain ⟨m,rfl⟩:∃ k,m=k+1:=⟨m-1,by omega⟩
   have IH:∀ b t i,TyOK l b t→i<v.items.length→Fit l d t (v.items.getD i default)→FFits_X l m t (v.items.getD i default)=some 0:=fun b t i hT hi hF=>fit_fits hS d m b t _ hT hF (hl4 i hi) (by omega)
   rw [fits_u]
   cases hF with
   | bool h1 h2 h3=>rw [fits_plain (by omega),if_pos h1]
   | num h1 h2 h3=>rw [fits_plain (by omega),if_pos rfl]
   | text h1 h2=>rw [fits_plain (by omega),if_pos rfl]
   | list h1 h2 =>
    rename_i xs
    have hl:=hI.len.1 h1
    rw [fits_many (.inl h1)]
    unfold FList_F
    rw [h1,hl]
    show chk ((0:Int)≤0∧(0:Int)<((1:Nat):Int)) (Option.bind (FEach_F l (FFits_X l m) ((strip t).of.getD 0 default) xs) some)=_
    rw [chk_pos (by decide),each_ok hl1 (fun i hi=>IH true _ i (hI.sub 0 (by omega)) hi (h2 i hi))];rfl
   | map h1 h2 h3 h4 =>
    have hl:=hI.len.2 h1
    rw [fits_many (.inr h1)]
    exact pairs_ok h1 hl rfl hl1 (fun i hi=>IH true _ i (hI.sub (i % 2) (by omega)) hi (h4 i hi))
   | enum h1 h2 h3 h4 h5=>rw [fits_named h1,named_enum h2,if_pos rfl,if_pos h5]
   | union h1 h2 h3 h4 =>
    rename_i g x
    rw [fits_named h1,named_union h2,if_pos rfl]
    refine rows_okF rfl hl2 (fun i hi=>?_)
    have hi':i<1:=hi
    obtain rfl:i=0:=by omega
    exact ⟨h3,IH false _ 0 (row_ty hS (by omega) h3).1 Nat.one_pos h4⟩
   | struct h1 h2 h3 h4 h5 h6 h7 =>
    rename_i gs xs
    rw [fits_named h1,named_struct h2,if_pos rfl,rows_okF h3 hl2 (fun i hi=>⟨h5 i hi,IH false _ i (row_ty hS (by omega) (h5 i hi)).1 (by rw [← h3];exact hi) (h6 i hi)⟩),Option.bind_some,if_neg (by decide),whole_eq hS _ _ hl2,h7]
    rfl
  by_cases hk9:t.kind=9
  ·obtain ⟨n,rfl⟩:∃ k,n=k+1:=⟨n-1,by omega⟩
   have:=core n (by omega)
   rw [show strip t=t.of.getD 0 default from if_pos hk9] at this
   rw [fits_u,fits_opt hk9 (h9 hk9)]
   exact this
  ·have:=core n (by omega)
   rw [strip_ne hk9] at this
   exact this
end Go.Proofs

namespace Go.Proofs
open Go.Sy Go.Lib

noncomputable def IntsR_L2 (x:List Int) (y:List Int) (s2:Int):Option ((Int) ⊕ ((Bool) ⊕ (Unit))) :=
 cond (decide (s2<(x.length:Int))) (chk ((0:Int)≤s2∧s2<(x.length:Int)) (chk ((0:Int)≤s2∧s2<(y.length:Int)) (cond ((x.getD (Int.toNat s2) default) != (y.getD (Int.toNat s2) default)) (some (Sum.inr ((Sum.inl false)))) (some (Sum.inl (IntKind.i64.wrap (s2+1))))))) (some (Sum.inr ((Sum.inr ()))))
noncomputable def IntsR_F (x:List Int) (y:List Int):Option (Bool) :=
 cond ((x.length:Int) != (y.length:Int)) (some false) (Option.bind (Iter (IntsR_L2 x y) 0) (Sum.elim (fun c12=>some c12) (fun b7=>some true)))
theorem IntsR_w (x:List Int) (y:List Int) (r:Bool) (h:IntsR_F x y=some r):FnP Tryz.prog 25 [SL 1 INTc x,SL 1 INTc y] (·=B r):=by
 unfold IntsR_F at h
 refine fnP Tryz.func25 fun X=>?_
 iterate 2 refine sc rfl ?_
 refine so rfl ?_
 refine so rfl ?_
 iterate 3 refine sc rfl ?_
 iterate 5 refine so rfl ?_
 refine so rfl ?_
 refine C_if rfl (fun hb1=>?_) (fun hb1=>?_)
 ·replace h:=cT hb1 h
  iterate 2 refine sc rfl ?_
  refine so rfl ?_
  refine so rfl ?_
  refine sc rfl ?_
  obtain rfl:=osi h
  exact ⟨_,rfl,rfl,rfl⟩
 ·replace h:=cF hb1 h
  iterate 4 refine sc rfl ?_
  refine so rfl ?_
  refine so rfl ?_
  obtain ⟨o3,ho3,h⟩:=bT h
  refine C_joinP ((fun b7:Unit=>(⟨[],[]⟩:St)) (match o3 with|(.inl b7)=>default|(.inr b7)=>b7)) (∃ b,o3=(.inr b)) ?_ (fun s hs hp=>?_)
  ·refine sc rfl ?_
   refine C_iter (fun s2:Int=>⟨[(0,SL 1 INTc x),(1,SL 1 INTc y),(5,I64 s2)],[]⟩) ho3 (Le.sub [] ⟨rfl,rfl,rfl,trivial⟩ rfl) (fun s2 y4 hy5 hr6=>?_)
   unfold IntsR_L2 at hy5
   iterate 3 refine sc rfl ?_
   iterate 4 refine so rfl ?_
   refine so rfl ?_
   refine C_if rfl (fun hb8=>?_) (fun hb8=>?_)
   ·replace hy5:=cT hb8 hy5
    iterate 4 refine sc rfl ?_
    refine C_drawD rfl (by kernel_rfl) ?_
    iterate 2 refine sd rfl ?_
    obtain ⟨g9,hy5⟩:=gT hy5
    refine sd rfl (And.intro g9 ?_)
    iterate 3 refine sd rfl ?_
    obtain ⟨g10,hy5⟩:=gT hy5
    refine sd rfl (And.intro g10 ?_)
    iterate 2 refine sd rfl ?_
    refine sd rfl ?_
    refine C_if rfl (fun hb11=>?_) (fun hb11=>?_)
    ·replace hy5:=cT hb11 hy5
     iterate 2 refine sc rfl ?_
     refine so rfl ?_
     refine so rfl ?_
     refine sc rfl ?_
     obtain rfl:=osi hy5
     have ho32:=hr6 _ rfl
     subst ho32
     obtain rfl:=osi h
     exact ⟨_,rfl,rfl,rfl⟩
    ·replace hy5:=cF hb11 hy5
     iterate 2 refine sc rfl ?_
     iterate 3 refine so rfl ?_
     refine so rfl ?_
     obtain rfl:=osi hy5
     exact ⟨_,rfl,Le.sub [] ⟨rfl,rfl,rfl,trivial⟩ rfl⟩
   ·replace hy5:=cF hb8 hy5
    refine sc rfl ?_
    obtain rfl:=osi hy5
    have ho32:=hr6 _ rfl
    subst ho32
    exact ⟨Le.sub [] trivial rfl,⟨_,rfl⟩⟩
  obtain ⟨b7,rfl⟩:=hp
  refine C_le ⟨[],[]⟩ hs ?_
  iterate 2 refine sc rfl ?_
  refine so rfl ?_
  refine so rfl ?_
  refine sc rfl ?_
  obtain rfl:=osi h
  exact ⟨_,rfl,rfl,rfl⟩
noncomputable def SameR_L10 (rec:Val→Val→Option (Bool)) (a:Val) (b:Val) (m1:Bool) (s10:Int):Option ((Int) ⊕ ((Bool) ⊕ (Unit))) :=
 cond (decide (s10<(a.items.length:Int))) (chk ((0:Int)≤s10∧s10<(a.items.length:Int)) (chk ((0:Int)≤s10∧s10<(b.items.length:Int)) (Option.bind (rec (a.items.getD (Int.toNat s10) default) (b.items.getD (Int.toNat s10) default)) (fun r19=>cond (!r19) (some (Sum.inr ((Sum.inl false)))) (some (Sum.inl (IntKind.i64.wrap (s10+1)))))))) (some (Sum.inr ((Sum.inr ()))))
noncomputable def SameR_F (rec:Val→Val→Option (Bool)) (a:Val) (b:Val):Option (Bool) :=
 Option.bind (α:=Bool) (cond (a.kind != b.kind) (some true) (cond (a.num != b.num) (some true) (cond (!(a.text == b.text)) (some true) (Option.bind (IntsR_F  a.tags b.tags) (fun r5=>cond (!r5) (some true) (some ((a.items.length:Int) != (b.items.length:Int)))))))) (fun m1=>cond m1 (some false) (Option.bind (Iter (SameR_L10 rec a b m1) 0) (Sum.elim (fun c22=>some c22) (fun b15=>some true))))
theorem SameR_wb (rec:Val→Val→Option (Bool)) (a:Val) (b:Val) (r:Bool) (hrec:∀ a b r,rec a b=some r→FnP Tryz.prog 13 [.agg (Val.c a),.agg (Val.c b)] (·=B r)) (h:SameR_F rec a b=some r):FnP Tryz.prog 13 [.agg (Val.c a),.agg (Val.c b)] (·=B r):=by
 unfold SameR_F at h
 refine fnP Tryz.func13 fun X=>?_
 iterate 2 refine sc rfl ?_
 refine so rfl ?_
 refine O_le _ (Le.freezebox 2 rfl rfl rfl) ?_
 refine so rfl ?_
 refine O_le _ (Le.freezebox 3 rfl rfl rfl) ?_
 refine so rfl ?_
 refine so rfl ?_
 iterate 2 refine sc rfl ?_
 obtain ⟨m1,hm1,h⟩:=bT h
 refine C_join ⟨[(2,.cp [I64 a.kind,I64 a.num,.s a.text,SL 1 INTc a.tags,.sl a.items.length 5 (Val.rows a.items)]),(3,.cp [I64 b.kind,I64 b.num,.s b.text,SL 1 INTc b.tags,.sl b.items.length 5 (Val.rows b.items)]),(41,B m1)],[]⟩ ?_ (fun s hm1s=>C_le _ hm1s ?_)
 ·refine sc rfl ?_
  iterate 6 refine so rfl ?_
  refine O_case 11 rfl (fun hb2=>?_) (fun hb2=>?_)
  ·replace hm1:=cT hb2 hm1
   iterate 30 refine so rfl ?_
   refine so rfl ?_
   obtain rfl:=osi hm1
   exact Le.sub [] ⟨rfl,rfl,rfl,trivial⟩ rfl
  ·replace hm1:=cF hb2 hm1
   iterate 7 refine so rfl ?_
   refine O_case 18 rfl (fun hb3=>?_) (fun hb3=>?_)
   ·replace hm1:=cT hb3 hm1
    iterate 23 refine so rfl ?_
    refine so rfl ?_
    obtain rfl:=osi hm1
    exact Le.sub [] ⟨rfl,rfl,rfl,trivial⟩ rfl
   ·replace hm1:=cF hb3 hm1
    iterate 7 refine so rfl ?_
    refine O_case 25 rfl (fun hb4=>?_) (fun hb4=>?_)
    ·replace hm1:=cT hb4 hm1
     iterate 16 refine so rfl ?_
     refine so rfl ?_
     obtain rfl:=osi hm1
     exact Le.sub [] ⟨rfl,rfl,rfl,trivial⟩ rfl
    ·replace hm1:=cF hb4 hm1
     iterate 4 refine so rfl ?_
     obtain ⟨r5,hr6,hm1⟩:=bT hm1
     refine O_cP (IntsR_w  _ _ _ hr6) fun q7 hq7=>?_
     subst hq7
     iterate 3 refine so rfl ?_
     refine O_case 33 rfl (fun hb8=>?_) (fun hb8=>?_)
     ·replace hm1:=cT hb8 hm1
      iterate 8 refine so rfl ?_
      refine so rfl ?_
      obtain rfl:=osi hm1
      exact Le.sub [] ⟨rfl,rfl,rfl,trivial⟩ rfl
     ·replace hm1:=cF hb8 hm1
      iterate 2 refine so rfl ?_
      refine O_le _ (Le.one 35 (SL 5 Val.c a.items) rfl (.row (Val.rows_eq _))) ?_
      iterate 3 refine so rfl ?_
      refine O_le _ (Le.one 38 (SL 5 Val.c b.items) rfl (.row (Val.rows_eq _))) ?_
      iterate 3 refine so rfl ?_
      refine so rfl ?_
      obtain rfl:=osi hm1
      exact Le.sub [] ⟨rfl,rfl,rfl,trivial⟩ rfl
 refine C_if rfl (fun hb9=>?_) (fun hb9=>?_)
 ·replace h:=cT hb9 h
  iterate 2 refine sc rfl ?_
  refine so rfl ?_
  refine so rfl ?_
  refine sc rfl ?_
  obtain rfl:=osi h
  exact ⟨_,rfl,rfl,rfl⟩
 ·replace h:=cF hb9 h
  iterate 4 refine sc rfl ?_
  refine so rfl ?_
  refine so rfl ?_
  obtain ⟨o11,ho11,h⟩:=bT h
  refine C_joinP ((fun b15:Unit=>(⟨[],[]⟩:St)) (match o11 with|(.inl b15)=>default|(.inr b15)=>b15)) (∃ b,o11=(.inr b)) ?_ (fun s hs hp=>?_)
  ·refine sc rfl ?_
   refine C_iter (fun s10:Int=>⟨[(2,.cp [I64 a.kind,I64 a.num,.s a.text,SL 1 INTc a.tags,.sl a.items.length 5 (Val.rows a.items)]),(3,.cp [I64 b.kind,I64 b.num,.s b.text,SL 1 INTc b.tags,.sl b.items.length 5 (Val.rows b.items)]),(5,I64 s10)],[]⟩) ho11 (Le.sub [] ⟨rfl,rfl,rfl,trivial⟩ rfl) (fun s10 y12 hy13 hr14=>?_)
   unfold SameR_L10 at hy13
   iterate 3 refine sc rfl ?_
   iterate 3 refine so rfl ?_
   refine O_le _ (Le.one 44 (SL 5 Val.c a.items) rfl (.row (Val.rows_eq _))) ?_
   iterate 2 refine so rfl ?_
   refine so rfl ?_
   refine C_if rfl (fun hb16=>?_) (fun hb16=>?_)
   ·replace hy13:=cT hb16 hy13
    iterate 4 refine sc rfl ?_
    refine C_drawD rfl (by kernel_rfl) ?_
    refine sd rfl ?_
    refine sdw (SL 5 Val.c a.items) rfl rfl rfl (.row (Val.rows_eq _)) ?_
    refine sd rfl ?_
    obtain ⟨g17,hy13⟩:=gT hy13
    refine sd rfl (And.intro g17 ?_)
    iterate 2 refine sd rfl ?_
    refine sdw (SL 5 Val.c b.items) rfl rfl rfl (.row (Val.rows_eq _)) ?_
    refine sd rfl ?_
    obtain ⟨g18,hy13⟩:=gT hy13
    refine sd rfl (And.intro g18 ?_)
    refine sd rfl ?_
    obtain ⟨r19,hr20,hy13⟩:=bT hy13
    refine D_call (hrec _ _ _ hr20) rfl rfl rfl rfl ?_
    refine sd rfl ?_
    refine sd rfl ?_
    refine C_if rfl (fun hb21=>?_) (fun hb21=>?_)
    ·replace hy13:=cT hb21 hy13
     iterate 2 refine sc rfl ?_
     refine so rfl ?_
     refine so rfl ?_
     refine sc rfl ?_
     obtain rfl:=osi hy13
     have ho112:=hr14 _ rfl
     subst ho112
     obtain rfl:=osi h
     exact ⟨_,rfl,rfl,rfl⟩
    ·replace hy13:=cF hb21 hy13
     iterate 2 refine sc rfl ?_
     iterate 3 refine so rfl ?_
     refine so rfl ?_
     obtain rfl:=osi hy13
     exact ⟨_,rfl,Le.sub [] ⟨rfl,rfl,rfl,trivial⟩ rfl⟩
   ·replace hy13:=cF hb16 hy13
    refine sc rfl ?_
    obtain rfl:=osi hy13
    have ho112:=hr14 _ rfl
    subst ho112
    exact ⟨Le.sub [] trivial rfl,⟨_,rfl⟩⟩
  obtain ⟨b15,rfl⟩:=hp
  refine C_le ⟨[],[]⟩ hs ?_
  iterate 2 refine sc rfl ?_
  refine so rfl ?_
  refine so rfl ?_
  refine sc rfl ?_
  obtain rfl:=osi h
  exact ⟨_,rfl,rfl,rfl⟩
noncomputable def SameR_X:Nat→Val→Val→Option (Bool)
 | 0=>fun _ _=>none
 | n+1=>SameR_F (SameR_X n)
theorem SameR_wn:∀ (n:Nat) (a:Val) (b:Val) (r:Bool),SameR_X n a b=some r→FnP Tryz.prog 13 [.agg (Val.c a),.agg (Val.c b)] (·=B r)
 | 0,_,_,_,h=>by cases h
 | n+1,a,b,r,h=>SameR_wb (SameR_X n) a b r (fun a b r hr=>SameR_wn n a b r hr) h
end Go.Proofs

namespace Go.Proofs
open Go.Sy Go.Lib

theorem least_at (f : Nat → Fld) (a : Nat) : ∀ (n : Nat), ∃ k, a ≤ k ∧ k < a + (n + 1) ∧ ∀ i, a ≤ i → i < a + (n + 1) → (f k).tag ≤ (f i).tag
  | 0 => ⟨a, Nat.le_refl _, by omega, fun i h1 h2 => by obtain rfl : i = a := by omega
                                                        exact Int.le_refl _⟩
  | n + 1 => by
    obtain ⟨k, h1, h2, h3⟩ := least_at f a n
    by_cases hc : (f k).tag ≤ (f (a + (n + 1))).tag
    · refine ⟨k, h1, by omega, fun i h4 h5 => ?_⟩
      by_cases hi : i < a + (n + 1)
      · exact h3 i h4 hi
      · obtain rfl : i = a + (n + 1) := by omega
        exact hc
    · refine ⟨a + (n + 1), by omega, by omega, fun i h4 h5 => ?_⟩
      by_cases hi : i < a + (n + 1)
      · have := h3 i h4 hi; omega
      · obtain rfl : i = a + (n + 1) := by omega
        exact Int.le_refl _
theorem sort_ex:∀ (n a b:Nat) (f:Nat→Fld),a+n=b→∃ g,PermOn a b f g∧Srt g a b
 | 0,a,b,f,h=>⟨f,.refl _ _ _,fun i j h1 h2 h3=>by omega⟩
 | n+1,a,b,f,h=>by
  obtain ⟨k,h1,h2,h3⟩:=least_at f a n
  have hp:=swp_perm f (u:=a) (v:=k) (a:=a) (b:=b) ⟨Nat.le_refl _,by omega⟩ ⟨h1,by omega⟩
  obtain ⟨g,hg1,hg2⟩:=sort_ex n (a+1) b (swp f a k) (by omega)
  have hpg:=hp.trans (hg1.mono (a':=a) (b':=b) (by omega) (Nat.le_refl _))
  refine ⟨g,hpg,fun i j hi hij hj=>?_⟩
  by_cases hia:i=a
  ·subst hia
   have e:g i=f k:=by
    rw [hg1.out (by omega)]
    unfold swp
    by_cases hk:i=k
    ·rw [if_pos hk,← hk]
    ·rw [if_neg hk,if_pos rfl]
   obtain ⟨q,q1,q2,q3⟩:=hpg.at_ (i:=j) (by omega) hj
   rw [e,q3]
   exact h3 q q1 (by omega)
  ·exact hg2 i j (by omega) hij hj
theorem srt_ex (F:List Fld):∃ R,SrtOf F R:=by
 obtain ⟨g,⟨p,r,h1,h2⟩,h3⟩:=sort_ex F.length 0 F.length (fun i=>F.getD i default) (by omega)
 have hR:∀ i,i<F.length→((List.range F.length).map g).getD i default=g i:=fun i hi=>by
  rw [List.getD_eq_getElem?_getD,List.getElem?_eq_getElem (by simpa using hi)];simp
 have hl:((List.range F.length).map g).length=F.length:=by simp
 refine ⟨(List.range F.length).map g,hl,⟨p,r,fun i a b=>?_,fun i hi=>?_⟩,fun i j a b c=>?_⟩
 ·obtain ⟨k1,k2,k3,k4,k5⟩:=h1 i a b
  exact ⟨k1,k2,k3,k4,by simp only [];rw [hR i b];exact k5⟩
 ·simp only []
  rw [List.getD_eq_getElem?_getD,List.getD_eq_getElem?_getD,List.getElem?_eq_none (by omega),List.getElem?_eq_none (by omega)]
 ·simp only []
  rw [hR i (by omega),hR j c];exact h3 i j a b c
theorem rows_ex (l:List Dcl):∃ Rs,RowsOK l Rs:=by
 refine ⟨(List.range l.length).map (fun i=>Classical.choose (srt_ex (l.getD i default).fields)),by simp,fun i hi=>?_⟩
 have e:((List.range l.length).map (fun i=>Classical.choose (srt_ex (l.getD i default).fields))).getD i default=Classical.choose (srt_ex (l.getD i default).fields):=by
  rw [List.getD_eq_getElem?_getD,List.getElem?_eq_getElem (by simpa using hi)];simp
 rw [e]
 exact Classical.choose_spec (srt_ex (l.getD i default).fields)

theorem rowsU_of {l:List Dcl} (hW:WellL l) (nm:List UInt8):(fndL nm l=none∧rowsU l nm=[])∨∃ j,fndL nm l=some j∧j<l.length∧DclOK l j (l.getD j default)∧kindL l nm=(l.getD j default).kind∧(∀ x,x∈rowsU l nm↔x∈(l.getD j default).fields)∧(rowsU l nm).Pairwise (fun a b=>a.tag<b.tag)∧(rowsU l nm).length=(l.getD j default).fields.length:=by
 obtain ⟨Rs,hRs⟩:=rows_ex l
 rw [← rowsU_eq hW hRs]
 unfold rowsL
 cases hf:fndL nm l with
 | none=>left;exact ⟨rfl,rfl⟩
 | some j =>
  right
  have hj:=fndL_lt hf
  have hn:=(List.nodup_append.1 (hW j hj).tags).1
  exact ⟨j,rfl,hj,hW j hj,by unfold kindL;rw [hf],((hRs.2 j hj).facts hn).1,(hRs.2 j hj).pw hn,(hRs.2 j hj).1⟩
theorem sch_of {l:List Dcl} (hl:FewL l) (hW:WellL l):Sch l:=by
 refine ⟨fun nm f hf hk=>?_,fun nm f hf hk=>?_,fun nm f hf hk=>?_,fun nm=>?_,fun nm=>?_⟩
 ·rcases rowsU_of hW nm with ⟨_,h⟩|⟨j,_,hj,hd,hkd,hm,_,_⟩
  ·rw [h] at hf;cases hf
  ·exact (hd.fs.ty f ((hm f).1 hf) (by rw [← hkd];exact hk)).1
 ·rcases rowsU_of hW nm with ⟨_,h⟩|⟨j,_,hj,hd,hkd,hm,_,_⟩
  ·rw [h] at hf;cases hf
  ·have:=hd.fs.rng f ((hm f).1 hf)
   rw [← hkd] at this
   unfold leastD mostD at this
   rw [if_neg hk,if_neg hk] at this
   exact this
 ·rcases rowsU_of hW nm with ⟨_,h⟩|⟨j,_,hj,hd,hkd,hm,_,_⟩
  ·rw [h] at hf;cases hf
  ·have:=hd.fs.rng f ((hm f).1 hf)
   rw [← hkd] at this
   unfold leastD mostD at this
   rw [if_pos hk,if_pos hk] at this
   exact this
 ·rcases rowsU_of hW nm with ⟨_,h⟩|⟨j,_,hj,hd,hkd,hm,hp,_⟩
  ·rw [h];exact .nil
  ·exact hp
 ·rcases rowsU_of hW nm with ⟨_,h⟩|⟨j,_,hj,hd,hkd,hm,hp,hlen⟩
  ·rw [h];exact Nat.zero_le _
  ·rw [hlen];exact (hl.2 j hj).f.1

theorem size_F:∀ (n:Nat) (v:Val),SizeOf.sizeOf v≤n→v.size≤1000000000→sizeF v=(v.size:Int)
 | 0,v,hn,_=>by cases v;simp at hn
 | n+1,v,hn,hs=>by
  rw [sizeF_eq]
  rw [size_eq] at hs ⊢
  have key:∀ (l:List Val) (k:Int),(∀ i,i<l.length→SizeOf.sizeOf (l.getD i default)≤n)→0≤k→k+(Val.sizes l:Int)≤1000000000→sizesF l k=k+(Val.sizes l:Int):=by
   intro l
   induction l with
   | nil=>intro k _ _ _;simp [sizesF,Val.sizes]
   | cons x l ih =>
    intro k h h0 hk
    simp only [sizesF,Val.sizes] at hk ⊢
    have hx:=size_F n x (by have:=h 0 (by simp);simpa using this) (by omega)
    rw [hx,w64 (by omega) (by omega),ih _ (fun i hi=>by have:=h (i+1) (by simpa using hi);simpa using this) (by omega) (by omega)]
    omega
  rw [w64 (by omega) (by omega),key v.items _ (fun i hi=>by have:=items_lt hi;omega) (by omega) (by omega)]
  omega
theorem great_size:∀ (n:Nat) (v:Val) (d:Nat),SizeOf.sizeOf v≤n→greatF v d=false→v.size≤22008
 | 0,v,d,hn,_=>by cases v;simp at hn
 | n+1,v,d,hn,h=>by
  rw [greatF_eq] at h
  split at h
  ·cases h
  rename_i hc
  have key:∀ (l:List Val) (d:Nat) (k:Int),(∀ i,i<l.length→SizeOf.sizeOf (l.getD i default)≤n)→0≤k→k≤100000→greatsF l d k=false→k+(Val.sizes l:Int)≤20000:=by
   intro l
   induction l with
   | nil=>intro d k _ _ _ h;simp only [greatsF,decide_eq_false_iff_not] at h;simp only [Val.sizes];omega
   | cons x l ih =>
    intro d k hl h0 hk h
    rw [greatsF_cons,Bool.or_eq_false_iff] at h
    have hxs:=great_size n x d (by have:=hl 0 (by simp);simpa using this) h.1
    have hx:=size_F _ x (Nat.le_refl _) (by omega)
    rw [hx,w64 (by omega) (by omega)] at h
    have:=ih d _ (fun i hi=>by have:=hl (i+1) (by simpa using hi);simpa using this) (by omega) (by omega) h.2
    simp only [Val.sizes]
    omega
  have:=key v.items _ 0 (fun i hi=>by have:=items_lt hi;omega) (by omega) (by omega) h
  rw [size_eq]
  omega
theorem few_len:∀ (n:Nat) (v:Val),SizeOf.sizeOf v≤n→FewV v→LenB v
 | 0,v,hn,_=>by cases v;simp at hn
 | n+1,v,hn,⟨h1,h2,h3,h4⟩=>.mk (by omega) (by omega) (by omega) (fun i hi=>few_len n _ (by have:=items_lt hi;omega) (h4 i hi))

theorem catR_le (f:Nat→List UInt8) (q:Nat→Val):∀ (k i:Nat),(∀ j,i≤j→j<i+k→(f j).length≤4*(q j).size)→(catR f i k).length≤4*Val.sizes (seg q i k)
 | 0,_,_=>Nat.le_refl _
 | k+1,i,h=>by
  simp only [catR,seg,Val.sizes,List.length_append]
  have:=h i (Nat.le_refl _) (by omega)
  have:=catR_le f q k (i+1) (fun j h1 h2=>h j (by omega) (by omega))
  omega
theorem enc_size {l:List Dcl} (hS:Sch l):∀ (d:Nat) (b:Bool) (t:Ty) (v:Val),TyOK l b t→Fit l d t v→v.size≤1000000000→(encI l d t v).length+12≤4*v.size∧(encC l (encI l d) t v).length+2≤4*v.size
 | 0,b,t,v,hT,hF,hs=>by have:=fit_pos hF;omega
 | d+1,b,t,v,hT,hF,hs=>by
  obtain ⟨hI,h9⟩:=strip_ok hT
  have h8:=size_ge v
  have IH:=fun (b:Bool) (t:Ty) (v:Val) (h1:TyOK l b t) (h2:Fit l d t v) (h3:v.size≤1000000000)=>(enc_size hS d b t v h1 h2 h3).2
  have main:(encI l (d+1) t v).length+12≤4*v.size:=by
   have num:(encI l (d+1) t v).length≤10→(encI l (d+1) t v).length+12≤4*v.size:=fun h=>by omega
   have num2:wireT l t=0→∀ n,encI l (d+1) t v=vput n→n<18446744073709551616→(encI l (d+1) t v).length+12≤4*v.size:=fun _ n h1 h2=>num (by rw [h1];exact vput_len10 h2)
   have hfm:=enc_form hF
   rcases wire01 l t with hw|hw
   ·obtain ⟨n,h1,_,h3⟩:=hfm.1 hw
    exact num2 hw n h3 h1
   ·have hnw:¬ ((strip t).kind=1∨(strip t).kind=2∨(strip t).kind=3∨((strip t).kind=6∧kindL l (strip t).name=3)):=fun h=>by rw [wire_num h] at hw;cases hw
    rw [size_eq] at hs ⊢
    cases hF with
    | bool h1 h2 h3=>omega
    | num h1 h2 h3=>omega
    | enum h1 h2 h3 h4 h5=>omega
    | text h1 h2 =>
     simp only [encI,encF]
     rw [if_pos h1]
     simp only [Val.sizes]
     omega
    | list h1 h2 =>
     rename_i xs
     have hl:=hI.len.1 h1
     simp only [encI,encF,List.length_nil] at hs ⊢
     rw [if_neg (by omega),if_pos (.inl h1)]
     have:=catR_le (encM l (encI l d) (strip t) ⟨7,0,[],[],xs⟩) (fun i=>xs.getD i default) xs.length 0 (fun j _ hj=>by
      have e0:j % (strip t).of.length=0:=by rw [hl];omega
      unfold encM
      rw [e0]
      have hz:=size_at (l:=xs) (i:=j) (by omega)
      have:=IH true _ _ (hI.sub 0 (by omega)) (h2 j (by omega)) (by omega)
      simp only []
      omega)
     rw [seg_full] at this
     omega
    | map h1 h2 h3 h4 =>
     rename_i xs
     have hl:=hI.len.2 h1
     simp only [encI,encF,List.length_nil] at hs ⊢
     rw [if_neg (by omega),if_pos (.inr h1)]
     have:=catR_le (encM l (encI l d) (strip t) ⟨8,0,[],[],xs⟩) (fun i=>xs.getD i default) xs.length 0 (fun j _ hj=>by
      unfold encM
      rw [hl]
      have hz:=size_at (l:=xs) (i:=j) (by omega)
      have:=IH true _ _ (hI.sub (j % 2) (by omega)) (h4 j (by omega)) (by omega)
      simp only []
      omega)
     rw [seg_full] at this
     omega
    | union h1 h2 h3 h4 =>
     rename_i g x
     obtain ⟨hTg,hg1,hg2⟩:=row_ty hS (nm:=(strip t).name) (g:=g) (by omega) h3
     simp only [encI,encF,List.length_nil,Val.sizes] at hs ⊢
     rw [if_neg (by omega),if_neg (by omega),if_pos ⟨h1,by omega⟩]
     simp only [List.length_singleton,catR,List.append_nil]
     have:=IH false _ _ hTg h4 (by omega)
     have hv:=vput_len22 (n:=(2*g+wireT l (fldJ (rowsU l (strip t).name) g).ty).toNat) (by have:=wire01 l (fldJ (rowsU l (strip t).name) g).ty;omega)
     show (vput (2*g+wireT l (fldJ (rowsU l (strip t).name) g).ty).toNat++encC l (encI l d) (fldJ (rowsU l (strip t).name) g).ty x).length+12≤_
     rw [List.length_append]
     omega
    | struct h1 h2 h3 h4 h5 h6 h7 =>
     rename_i gs xs
     simp only [encI,encF,List.length_nil] at hs ⊢
     rw [if_neg (by omega),if_neg (by omega),if_pos ⟨h1,by omega⟩]
     have:=catR_le (encR l (encI l d) (strip t).name ⟨9,0,[],gs,xs⟩) (fun i=>xs.getD i default) gs.length 0 (fun j _ hj=>by
      obtain ⟨hTg,hg1,hg2⟩:=row_ty hS (nm:=(strip t).name) (by omega) (h5 j (by omega))
      have hz:=size_at (l:=xs) (i:=j) (by omega)
      have:=IH false _ _ hTg (h6 j (by omega)) (by omega)
      have hv:=vput_len22 (n:=(2*gs.getD j default+wireT l (fldJ (rowsU l (strip t).name) (gs.getD j default)).ty).toNat) (by have:=wire01 l (fldJ (rowsU l (strip t).name) (gs.getD j default)).ty;omega)
      unfold encR
      simp only [List.length_append]
      omega)
     rw [h3,seg_full,← h3] at this
     omega
  refine ⟨main,?_⟩
  unfold encC
  split
  ·omega
  ·have:=span_le (s:=encI l (d+1) t v) (by omega)
   omega
end Go.Proofs

namespace Go.Proofs
open Go.Sy Go.Lib

end Go.Proofs

namespace Go.Proofs
open Go.Sy Go.Lib

def MonoR (rec rec':DRec) (M' deep:Int) (t:Ty):Prop:=∀ s made r,s.length≤4000→0≤made→made+9*(s.length:Int)+8≤BB→made+9*(s.length:Int)+8≤M'→rec t s deep made=some r→r≠.error 13→rec' t s deep made=some r
theorem both {m:List Dcl} {d:Nat} {rec rec':DRec} {M M' deep:Int} {t:Ty} (h1:GoodR m d rec M deep t) (h2:MonoR rec rec' M' deep t) {s:List UInt8} {made:Int} (hS:s.length≤4000) (h0:0≤made) (hB:made+9*(s.length:Int)+8≤BB) (hM:made+9*(s.length:Int)+8≤M') :
  rec t s deep made=some (.error 13)∨(∃ e,rec t s deep made=some (.error e)∧rec' t s deep made=some (.error e))∨∃ v rest made',rec t s deep made=some (.ok (v,rest,made'))∧rec' t s deep made=some (.ok (v,rest,made'))∧0≤made'∧rest.length<s.length∧made'+9*(rest.length:Int)≤made+9*(s.length:Int):=by
 obtain ⟨r,hr,hg⟩:=h1 s made hS h0 hB
 by_cases h13:r=.error 13
 ·left;rw [hr,h13]
 right
 have:=h2 s made r hS h0 hB hM hr h13
 cases r with
 | error e=>left;exact ⟨e,hr,this⟩
 | ok q =>
  obtain ⟨v,rest,made'⟩:=q
  obtain ⟨a1,a2,a3,a4,a5⟩:=hg.2 v rest made' rfl
  have hp:=cont_pos (l:=m) (t:=t) (v:=v) (fit_pos a1)
  right
  exact ⟨v,rest,made',hr,this,by omega,by omega,by omega⟩

end Go.Proofs
