/- Contracts of parse: methods; the rows of declarations. -/
import Derived.Test.YtgmdpfoccnalnaaGreatDoorE4
import Derived.Test.YtgmdpfoccnalnaaGreatDoorE2
import Derived.Test.YtgmdpfoccnalnaaGreatDoorE3
set_option linter.unusedSimpArgs false
set_option linter.unusedVariables false
set_option maxRecDepth 100000
namespace Go.Proofs
open Go.Sy Go.Lib

def m1P (ts:List Tok) (p:PS):PS:=numP ts (mayP ts [111,110,101,119,97,121] p)
def m2P (ts:List Tok) (p:PS):PS:=nameP ts (m1P ts p)
def m3P (ts:List Tok) (p:PS):PS:=needF ts [40] (m2P ts p)
def m4P (ts:List Tok) (p:PS):PS:=nameP ts (m3P ts p)
def m5P (ts:List Tok) (p:PS):PS:=needF ts [58] (needF ts [41] (m4P ts p))
def methF (ts:List Tok) (p:PS):Mth×PS :=
 (⟨numV ts (mayP ts [111,110,101,119,97,121] p),nameV ts (m1P ts p),nameV ts (m3P ts p),nameV ts (m5P ts p),mayF ts [111,110,101,119,97,121] p⟩,nameP ts (m5P ts p))

abbrev dA (bd:Nat) (d:Dcl) (hf hm:Value):Abs:=boxA bd 53 [I64 d.kind,.s d.name,.v hf,.v hm,I64 d.fat]
abbrev fldA (h:Value) (F:List Fld):Abs:=vecA h 60 5 F.length (fun i=>Fld.c (F.getD i default))
abbrev mthA (h:Value) (F:List Mth):Abs:=vecA h 127 5 F.length (fun i=>Mth.c (F.getD i default))

def f1P (ts:List Tok) (p:PS):PS:=needF ts [58] (nameP ts (numP ts p))
def fieldR (ts:List Tok) (p:PS) (d:Dcl):Dcl×PS :=
 (⟨d.kind,d.name,d.fields++[⟨numV ts p,nameV ts (numP ts p),(typF ts 10 0 (f1P ts p)).1⟩],d.methods,d.fat⟩,(typF ts 10 0 (f1P ts p)).2)
def enumR (ts:List Tok) (p:PS) (d:Dcl):Dcl×PS :=
 (⟨d.kind,d.name,d.fields++[⟨numV ts p,nameV ts (numP ts p),⟨0,[],[]⟩⟩],d.methods,d.fat⟩,nameP ts (numP ts p))
def methR (ts:List Tok) (p:PS) (d:Dcl):Dcl×PS :=
 (⟨d.kind,d.name,d.fields,d.methods++[(methF ts p).1],d.fat⟩,(methF ts p).2)

section
variable (m:Int) (b:Nat) (ts:List Tok) (hT:TsOK ts)
include hT in
theorem method_A (p:PS) (hp:p.i<ts.length):FnA Tryz.prog 102 [PT b 0] [psA m b ts p] (fun r cs'=>r=.agg (Mth.c (methF ts p).1)∧cs'=[psA m b ts (methF ts p).2]):=by
 refine fnA Tryz.func102 fun X=>?_
 have l0:=may_lt hT hp [111,110,101,119,97,121]
 have l1:(m1P ts p).i<ts.length:=num_lt hT l0
 have l2:(m2P ts p).i<ts.length:=name_lt hT l1
 have l3:(m3P ts p).i<ts.length:=need_lt hT l2 _
 have l4:(m4P ts p).i<ts.length:=name_lt hT l3
 have l5:=need_lt hT l4 [41]
 have l6:(m5P ts p).i<ts.length:=need_lt hT l5 _
 repeat (first|refine sc rfl ?_|refine so rfl ?_)
 refine O_cA [1] (may_A m b ts hT p hp [111,110,101,119,97,121]) ?_
 rintro r cs' ⟨rfl,rfl⟩
 repeat (first|refine sc rfl ?_|refine so rfl ?_)
 refine O_cA [1] (number_A2 m b ts hT _ l0) ?_
 rintro r cs' ⟨rfl,rfl⟩
 repeat (first|refine sc rfl ?_|refine so rfl ?_)
 refine O_cA [1] (name_A m b ts hT _ l1) ?_
 rintro r cs' ⟨rfl,rfl⟩
 repeat (first|refine sc rfl ?_|refine so rfl ?_)
 refine O_cA [1] (need_A m b ts hT _ l2 [40]) ?_
 rintro r cs' ⟨rfl,rfl⟩
 repeat (first|refine sc rfl ?_|refine so rfl ?_)
 refine O_cA [0] (name_A m b ts hT _ l3) ?_
 rintro r cs' ⟨rfl,rfl⟩
 repeat (first|refine sc rfl ?_|refine so rfl ?_)
 refine O_cA [1] (need_A m b ts hT _ l4 [41]) ?_
 rintro r cs' ⟨rfl,rfl⟩
 repeat (first|refine sc rfl ?_|refine so rfl ?_)
 refine O_cA [0] (need_A m b ts hT _ l5 [58]) ?_
 rintro r cs' ⟨rfl,rfl⟩
 repeat (first|refine sc rfl ?_|refine so rfl ?_)
 refine O_cA [0] (name_A m b ts hT _ l6) ?_
 rintro r cs' ⟨rfl,rfl⟩
 repeat (first|refine sc rfl ?_|refine so rfl ?_)
 exact ⟨_,[_],_,rfl,pickA_perm (is:=[2]) (As:=[_]) rfl,rfl,rfl,rfl⟩

def CD1 (m:Int) (b:Nat) (ts:List Tok) (p:PS) (bd:Nat) (d:Dcl) (hf hm:Value) (b1 b3 b5:Bool):List Ch :=
 (bif b5 then [.box 2 60 [I64 0,.s [],I64 0,.s [],.v (.slice none 0 0)]] else [])++[.abs (psA m b ts (bif b3 then nameP ts (numP ts p) else bif b1 then numP ts p else p)),.abs (dA bd d hf hm),.abs (fldA hf d.fields),.abs (mthA hm d.methods)]
def PD1:Pl:=⟨[[],[],[],[1],[1,3],[]],[1,3,5],[(5,2)],[]⟩

include hT in
theorem field_A (p:PS) (hp:p.i<ts.length) (bd:Nat) (d:Dcl) (hf hm:Value) (hl:d.fields.length≤5000) :
  FnA Tryz.prog 94 [.cp [PT b 0],PT bd 0] [psA m b ts p,dA bd d hf hm,fldA hf d.fields,mthA hm d.methods] (fun r cs'=>r=.tup []∧∃ hf',cs'=[psA m b ts (fieldR ts p d).2,dA bd (fieldR ts p d).1 hf' hm,fldA hf' (fieldR ts p d).1.fields,mthA hm d.methods]):=by
 refine fnA Tryz.func94 fun X=>?_
 have l1:=num_lt hT hp
 have l2:=name_lt hT l1
 have l3:(f1P ts p).i<ts.length:=need_lt hT l2 _
 repeat refine sc rfl ?_
 refine C_drawMT PD1 20 6 (fun L=>CD1 m b ts p bd d hf hm (L 1) (L 3) (L 5)) rfl (by kernel_rfl) (by kernel_rfl) (by kernel_rfl) (by kernel_rfl) (fun L L' h=>by show CD1 m b ts p bd d hf hm (L 1) (L 3) (L 5)=CD1 m b ts p bd d hf hm (L' 1) (L' 3) (L' 5);rw [h 1 (by decide),h 3 (by decide),h 5 (by decide)]) rfl ?_
 refine sm rfl ⟨trivial,?_⟩
 refine SM (I64 (numV ts p)) rfl (fun L h1 h2 h3=>?_) ?_
 ·show StepX _ _ _ _ _ (CD1 m b ts p bd d hf hm (L 1) (L 3) (L 5)) (CD1 m b ts p bd d hf hm true (L 3) (L 5)) _ _ _
  rw [show L 1=false from h3,h2 3 (show (1:Nat)∈PD1.anc 3 by decide)]
  cases L 5
  ·exact X_callA [0] (number_A2 m b ts hT p hp) rfl rfl rfl rfl rfl
  ·exact (X_callA [1] (number_A2 m b ts hT p hp) rfl rfl rfl rfl rfl).perm (.swap _ _ _)
 refine sm rfl ⟨trivial,?_⟩
 refine SM (.s (nameV ts (numP ts p))) rfl (fun L h1 h2 h3=>?_) ?_
 ·show StepX _ _ _ _ _ (CD1 m b ts p bd d hf hm (L 1) (L 3) (L 5)) (CD1 m b ts p bd d hf hm (L 1) true (L 5)) _ _ _
  rw [show L 3=false from h3,h1 1 (show (1:Nat)∈PD1.anc 3 by decide)]
  cases L 5
  ·exact X_callA [0] (name_A m b ts hT _ l1) rfl rfl rfl rfl rfl
  ·exact (X_callA [1] (name_A m b ts hT _ l1) rfl rfl rfl rfl rfl).perm (.swap _ _ _)
 refine sm rfl ⟨trivial,?_⟩
 refine SM (.bp 2 0) rfl (fun L h1 h2 h3=>?_) ?_
 ·show StepX _ _ _ _ _ (CD1 m b ts p bd d hf hm (L 1) (L 3) (L 5)) (CD1 m b ts p bd d hf hm (L 1) (L 3) true) _ _ _
  rw [show L 5=false from h3]
  exact X_alloc rfl rfl rfl rfl (show ((5,2):Nat×Nat)∈PD1.cre by decide) rfl rfl rfl
 refine sm rfl ?_
 repeat (first|refine sc rfl ?_|refine so rfl ?_)
 refine O_cA [1] (need_A m b ts hT (nameP ts (numP ts p)) l2 [58]) ?_
 rintro r cs' ⟨rfl,rfl⟩
 repeat (first|refine sc rfl ?_|refine so rfl ?_)
 refine O_cA [0] (typ_A m b ts hT 10 0 (by decide) (by decide) (f1P ts p) l3) ?_
 rintro r cs' ⟨rfl,rfl⟩
 unfold fieldR
 generalize typF ts 10 0 (f1P ts p)=x at *
 obtain ⟨x1,p3⟩:=x
 simp only []
 generalize numV ts p=n1
 generalize nameV ts (numP ts p)=n2
 repeat (first|refine sc rfl ?_|refine so rfl ?_)
 refine O_loadP 2 (A:=dA bd d hf hm) (reads_box 2) rfl rfl rfl rfl rfl rfl ?_
 repeat (first|refine so rfl ?_|refine sb rfl ?_)
 refine O_le _ (Le.freeze 16 rfl rfl) ?_
 refine O_appendV 3 (m2:=1) (m3:=d.fields.length+1) (row3:=fun i=>Fld.c ((d.fields++[(⟨n1,n2,x1⟩:Fld)]).getD i default)) rfl rfl rfl rfl rfl rfl (fun i hi=>?_) rfl (by show (d.fields.length+1)*72≤140737488355328;omega) (by show d.fields.length+1≤maxLen;simp only [maxLen];omega) rfl (fun i hi=>?_) (fun v' hv'=>?_)
 ·show (chunkRow 5 (Fld.c ((⟨n1,n2,x1⟩:Fld))) i).length=5
  have h0:i=0:=by have:i<1:=hi;omega
  subst h0;rfl
 ·unfold appRow
  by_cases hik:i<d.fields.length
  ·rw [if_pos hik]
   show Fld.c (d.fields.getD i default)=_
   rw [List.getD_eq_getElem?_getD,List.getD_eq_getElem?_getD,List.getElem?_append_left hik]
  ·rw [if_neg hik]
   obtain rfl:i=d.fields.length:=by omega
   rw [Nat.sub_self,List.getD_eq_getElem?_getD,List.getElem?_append_right (Nat.le_refl _),Nat.sub_self];rfl
 obtain ⟨g9,cc9,rfl⟩:=hv'.resolve_left (fun h=>by omega)
 repeat refine so rfl ?_
 refine O_Xn (X_storeP 3 (A:=dA bd d hf hm) (writes_box (by show 2<5;decide)) rfl rfl rfl rfl rfl rfl rfl) ?_
 repeat refine so rfl ?_
 exact ⟨_,[psA m b ts p3,dA bd ⟨d.kind,d.name,d.fields++[(⟨n1,n2,x1⟩:Fld)],d.methods,d.fat⟩ (HD g9 (d.fields.length+1) cc9) hm,vecA (HD g9 (d.fields.length+1) cc9) 60 5 (d.fields.length+1) (fun i=>Fld.c ((d.fields++[(⟨n1,n2,x1⟩:Fld)]).getD i default)),mthA hm d.methods],_,rfl,pickA_perm (is:=[3,0,0,1]) (As:=[_,_,_,_]) rfl,rfl,rfl,_,by rw [fldA,List.length_append];rfl⟩
end
end Go.Proofs

namespace Go.Proofs
open Go.Sy Go.Lib

theorem StepD.conv {P:Program} {T:Tab} {X:Ctx P T} {n:Nat} {ops:Array Oper} {c:List Ch} {o:Oper} {Si:List (Nat×AV)} {x y:AV} (d:Nat) (h:StepD X n ops Si c o x) (hd:o.dst=some d) (hxy:∀ e v,Rep e x v→Rep e y v):StepD X n ops Si c o y :=
 fun e a w S K Q r hS hk=>h e a w S K Q r hS (fun e' a' w' r'=>by
  rw [hd] at r' hk
  obtain ⟨e2,r2⟩:=(Le.conv (X:=X) (n:=n) d (x:=x) (y:=y) (by rw [putS,get_cons,if_pos rfl]) hxy) e' a' w' r'
  exact hk e2 a' w' (r2.less (fun k z hk2=>by
   simp only [putS] at hk2 ⊢
   rw [get_cons] at hk2 ⊢
   by_cases hdk:d=k
   ·rw [if_pos hdk] at hk2 ⊢;exact hk2
   ·rw [if_neg hdk] at hk2 ⊢;rw [get_cons,if_neg hdk];exact hk2) (fun hh=>hh)))

theorem rep_fld0 {G:IM} {n1:Int} {n2:List UInt8} {y:Value} (h:RepI G (.sl 1 5 (chunkRow 5 [I64 n1,.s n2,I64 0,.s [],.v (.slice none 0 0)])) y):RepI G (.sl 1 5 (fun _=>Fld.c (⟨n1,n2,⟨0,[],[]⟩⟩:Fld))) y:=by
 simp only [RepI] at h ⊢
 obtain ⟨a,c,e,hc,r⟩:=h
 refine ⟨a,c,e,hc,?_⟩
 rcases r with r|⟨b,o,ea,r⟩
 ·exact .inl r
 ·refine .inr ⟨b,o,ea,fun i hi=>?_⟩
  obtain rfl:i=0:=by omega
  have h0:CellsAt G [I64 n1,.s n2,I64 0,.s [],.v (.slice none 0 0)] b (o+0*5):=r 0 hi
  show CellsAt G [I64 n1,.s n2,I64 0,.s [],.sl 0 3 (Ty.rows [])] b (o+0*5)
  simp only [CellsAt] at h0 ⊢
  obtain ⟨k1,k2,k3,k4,⟨z,z1,z2,z3⟩,k6⟩:=h0
  exact ⟨k1,k2,k3,k4,⟨z,z1,repI_nil (by simpa only [RepI] using z2),z3⟩,k6⟩

def CD2 (m:Int) (b:Nat) (ts:List Tok) (p:PS) (bd:Nat) (d:Dcl) (hf hm:Value) (b3 b5:Bool):List Ch :=
 [.abs (psA m b ts (bif b5 then nameP ts (numP ts p) else bif b3 then numP ts p else p)),.abs (dA bd d hf hm),.abs (fldA hf d.fields),.abs (mthA hm d.methods)]
def PD2:Pl:=⟨[[],[],[],[],[],[3],[3,5],[]],[3,5],[],[]⟩
def CD3 (m:Int) (b:Nat) (ts:List Tok) (p:PS) (bd:Nat) (d:Dcl) (hf hm:Value) (b3:Bool):List Ch :=
 [.abs (psA m b ts (bif b3 then (methF ts p).2 else p)),.abs (dA bd d hf hm),.abs (fldA hf d.fields),.abs (mthA hm d.methods)]
def PD3:Pl:=⟨[],[3],[],[]⟩

section
variable (m:Int) (b:Nat) (ts:List Tok) (hT:TsOK ts)
include hT in
theorem enum_A (p:PS) (hp:p.i<ts.length) (bd:Nat) (d:Dcl) (hf hm:Value) (hl:d.fields.length≤5000) :
  FnA Tryz.prog 100 [PT bd 0,.cp [PT b 0]] [psA m b ts p,dA bd d hf hm,fldA hf d.fields,mthA hm d.methods] (fun r cs'=>r=.tup []∧∃ hf',cs'=[psA m b ts (enumR ts p d).2,dA bd (enumR ts p d).1 hf' hm,fldA hf' (enumR ts p d).1.fields,mthA hm d.methods]):=by
 refine fnA Tryz.func100 fun X=>?_
 have l1:=num_lt hT hp
 repeat refine sc rfl ?_
 refine C_drawMT PD2 20 8 (fun L=>CD2 m b ts p bd d hf hm (L 3) (L 5)) rfl (by kernel_rfl) (by kernel_rfl) (by kernel_rfl) (by kernel_rfl) (fun L L' h=>by show CD2 m b ts p bd d hf hm (L 3) (L 5)=CD2 m b ts p bd d hf hm (L' 3) (L' 5);rw [h 3 (by decide),h 5 (by decide)]) rfl ?_
 refine sm rfl ⟨trivial,?_⟩
 refine SM (.v hf) rfl (fun L h1 h2 h3=>?_) ?_
 ·show StepX _ _ _ _ _ (CD2 m b ts p bd d hf hm (L 3) (L 5)) (CD2 m b ts p bd d hf hm (L 3) (L 5)) _ _ _
  exact X_loadP 1 (A:=dA bd d hf hm) (reads_box 2) rfl rfl rfl rfl rfl rfl
 refine sm rfl ⟨trivial,?_⟩
 refine SM (I64 (numV ts p)) rfl (fun L h1 h2 h3=>?_) ?_
 ·show StepX _ _ _ _ _ (CD2 m b ts p bd d hf hm (L 3) (L 5)) (CD2 m b ts p bd d hf hm true (L 5)) _ _ _
  rw [show L 3=false from h3,h2 5 (show (3:Nat)∈PD2.anc 5 by decide)]
  exact X_callA [0] (number_A2 m b ts hT p hp) rfl rfl rfl rfl rfl
 refine sm rfl ⟨trivial,?_⟩
 refine SM (.s (nameV ts (numP ts p))) rfl (fun L h1 h2 h3=>?_) ?_
 ·show StepX _ _ _ _ _ (CD2 m b ts p bd d hf hm (L 3) (L 5)) (CD2 m b ts p bd d hf hm (L 3) true) _ _ _
  rw [show L 5=false from h3,h1 3 (show (3:Nat)∈PD2.anc 5 by decide)]
  exact X_callA [0] (name_A m b ts hT _ l1) rfl rfl rfl rfl rfl
 refine sm rfl ⟨trivial,?_⟩
 refine SM (.sl 1 5 (fun _=>Fld.c (⟨numV ts p,nameV ts (numP ts p),⟨0,[],[]⟩⟩:Fld))) rfl (fun L h1 h2 h3=>?_) ?_
 ·show StepX _ _ _ _ _ (CD2 m b ts p bd d hf hm (L 3) (L 5)) (CD2 m b ts p bd d hf hm (L 3) (L 5)) _ _ _
  exact (StepD.conv 9 (stepD_bsl (el:=60) (esz:=5) (len:=1) (cs:=[I64 (numV ts p),.s (nameV ts (numP ts p)),I64 0,.s [],.v (.slice none 0 0)]) rfl rfl rfl) rfl (fun e v h=>by simp only [Rep] at h ⊢;exact rep_fld0 h)).toX
 refine sm rfl ?_
 unfold enumR
 generalize numV ts p=n1
 generalize nameV ts (numP ts p)=n2
 show SymO _ _ _ _ ⟨_,CD2 m b ts p bd d hf hm true true⟩ _
 refine O_appendV 2 (m2:=1) (m3:=d.fields.length+1) (row3:=fun i=>Fld.c ((d.fields++[(⟨n1,n2,⟨0,[],[]⟩⟩:Fld)]).getD i default)) rfl rfl rfl rfl rfl rfl (fun i hi=>?_) rfl (by show (d.fields.length+1)*72≤140737488355328;omega) (by show d.fields.length+1≤maxLen;simp only [maxLen];omega) rfl (fun i hi=>?_) (fun v' hv'=>?_)
 ·rfl
 ·unfold appRow
  by_cases hik:i<d.fields.length
  ·rw [if_pos hik]
   show Fld.c (d.fields.getD i default)=_
   rw [List.getD_eq_getElem?_getD,List.getD_eq_getElem?_getD,List.getElem?_append_left hik]
  ·rw [if_neg hik]
   obtain rfl:i=d.fields.length:=by omega
   rw [Nat.sub_self,List.getD_eq_getElem?_getD,List.getElem?_append_right (Nat.le_refl _),Nat.sub_self];rfl
 obtain ⟨g9,cc9,rfl⟩:=hv'.resolve_left (fun h=>by omega)
 repeat refine so rfl ?_
 refine O_Xn (X_storeP 2 (A:=dA bd d hf hm) (writes_box (by show 2<5;decide)) rfl rfl rfl rfl rfl rfl rfl) ?_
 repeat refine so rfl ?_
 exact ⟨_,[psA m b ts (nameP ts (numP ts p)),dA bd ⟨d.kind,d.name,d.fields++[(⟨n1,n2,⟨0,[],[]⟩⟩:Fld)],d.methods,d.fat⟩ (HD g9 (d.fields.length+1) cc9) hm,vecA (HD g9 (d.fields.length+1) cc9) 60 5 (d.fields.length+1) (fun i=>Fld.c ((d.fields++[(⟨n1,n2,⟨0,[],[]⟩⟩:Fld)]).getD i default)),mthA hm d.methods],_,rfl,pickA_perm (is:=[2,0,0,0]) (As:=[_,_,_,_]) rfl,rfl,rfl,_,by rw [fldA,List.length_append];rfl⟩

include hT in
theorem service_A (p:PS) (hp:p.i<ts.length) (bd:Nat) (d:Dcl) (hf hm:Value) (hl:d.methods.length≤5000) :
  FnA Tryz.prog 101 [PT bd 0,.cp [PT b 0]] [psA m b ts p,dA bd d hf hm,fldA hf d.fields,mthA hm d.methods] (fun r cs'=>r=.tup []∧∃ hm',cs'=[psA m b ts (methR ts p d).2,dA bd (methR ts p d).1 hf hm',fldA hf d.fields,mthA hm' (methR ts p d).1.methods]):=by
 refine fnA Tryz.func101 fun X=>?_
 repeat refine sc rfl ?_
 refine C_drawMT PD3 20 5 (fun L=>CD3 m b ts p bd d hf hm (L 3)) rfl (by kernel_rfl) (by kernel_rfl) (by kernel_rfl) (by kernel_rfl) (fun L L' h=>by show CD3 m b ts p bd d hf hm (L 3)=CD3 m b ts p bd d hf hm (L' 3);rw [h 3 (by decide)]) rfl ?_
 refine sm rfl ⟨trivial,?_⟩
 refine SM (.v hm) rfl (fun L h1 h2 h3=>?_) ?_
 ·show StepX _ _ _ _ _ (CD3 m b ts p bd d hf hm (L 3)) (CD3 m b ts p bd d hf hm (L 3)) _ _ _
  exact X_loadP 1 (A:=dA bd d hf hm) (reads_box 3) rfl rfl rfl rfl rfl rfl
 refine sm rfl ⟨trivial,?_⟩
 refine SM (.agg (Mth.c (methF ts p).1)) rfl (fun L h1 h2 h3=>?_) ?_
 ·show StepX _ _ _ _ _ (CD3 m b ts p bd d hf hm (L 3)) (CD3 m b ts p bd d hf hm true) _ _ _
  rw [show L 3=false from h3]
  exact X_callA [0] (method_A m b ts hT p hp) rfl rfl rfl rfl rfl
 refine SM (.sl 1 5 (chunkRow 5 (Mth.c (methF ts p).1))) rfl (fun L h1 h2 h3=>?_) ?_
 ·show StepX _ _ _ _ _ (CD3 m b ts p bd d hf hm (L 3)) (CD3 m b ts p bd d hf hm (L 3)) _ _ _
  exact (stepD_bsl (el:=127) (esz:=5) (len:=1) (cs:=Mth.c (methF ts p).1) rfl rfl rfl).toX
 refine sm rfl ?_
 unfold methR
 show SymO _ _ _ _ ⟨_,CD3 m b ts p bd d hf hm true⟩ _
 refine O_appendV 3 (m2:=1) (m3:=d.methods.length+1) (row3:=fun i=>Mth.c ((d.methods++[(methF ts p).1]).getD i default)) rfl rfl rfl rfl rfl rfl (fun i hi=>?_) rfl (by show (d.methods.length+1)*64≤140737488355328;omega) (by show d.methods.length+1≤maxLen;simp only [maxLen];omega) rfl (fun i hi=>?_) (fun v' hv'=>?_)
 ·have h0:i=0:=by have:i<1:=hi;omega
  subst h0;rfl
 ·unfold appRow
  by_cases hik:i<d.methods.length
  ·rw [if_pos hik]
   show Mth.c (d.methods.getD i default)=_
   rw [List.getD_eq_getElem?_getD,List.getD_eq_getElem?_getD,List.getElem?_append_left hik]
  ·rw [if_neg hik]
   obtain rfl:i=d.methods.length:=by omega
   rw [Nat.sub_self,List.getD_eq_getElem?_getD,List.getElem?_append_right (Nat.le_refl _),Nat.sub_self];rfl
 obtain ⟨g9,cc9,rfl⟩:=hv'.resolve_left (fun h=>by omega)
 repeat refine so rfl ?_
 refine O_Xn (X_storeP 2 (A:=dA bd d hf hm) (writes_box (by show 3<5;decide)) rfl rfl rfl rfl rfl rfl rfl) ?_
 repeat refine so rfl ?_
 exact ⟨_,[psA m b ts (methF ts p).2,dA bd ⟨d.kind,d.name,d.fields,d.methods++[(methF ts p).1],d.fat⟩ hf (HD g9 (d.methods.length+1) cc9),fldA hf d.fields,vecA (HD g9 (d.methods.length+1) cc9) 127 5 (d.methods.length+1) (fun i=>Mth.c ((d.methods++[(methF ts p).1]).getD i default))],_,rfl,pickA_perm (is:=[2,0,1,0]) (As:=[_,_,_,_]) rfl,rfl,rfl,_,by rw [mthA,List.length_append];rfl⟩
end
end Go.Proofs

namespace Go.Proofs
open Go.Sy Go.Lib

def bodyF (ts:List Tok) (R:PS→Dcl→Dcl×PS) (k:Nat) (p:PS) (d:Dcl):Dcl×PS :=
 let p1:=if k=16∧(nowF ts p).kind≠4 then failF ts 3 p else p
 if p1.err=0 then ((R p1 d).1,needF ts [59] (R p1 d).2) else (d,p1)
def rowsF (ts:List Tok) (R:PS→Dcl→Dcl×PS):Nat→Nat→PS→Dcl→Dcl×PS
 | 0,_,p,d=>(d,p)
 | n+1,k,p,d=>if p.err=0 then (if mayF ts [125] p then (d,p.next) else rowsF ts R n (k+1) (bodyF ts R k p d).2 (bodyF ts R k p d).1) else (d,p)

section
variable (m:Int) (b:Nat) (ts:List Tok) (hT:TsOK ts)

structure RowC (bd:Nat) (f:FuncId) (caps:List AV) (R:PS→Dcl→Dcl×PS):Prop where
 lt:∀ (p:PS) (d:Dcl),p.i<ts.length→(R p d).2.i<ts.length
 ge:∀ (p:PS) (d:Dcl),p.i≤(R p d).2.i
 fl:∀ (p:PS) (d:Dcl),(R p d).1.fields.length≤d.fields.length+1∧(R p d).1.methods.length≤d.methods.length+1
 run:∀ (p:PS) (d:Dcl) (hf hm:Value),p.i<ts.length→d.fields.length≤5000→d.methods.length≤5000 →
  FnA Tryz.prog f caps [psA m b ts p,dA bd d hf hm,fldA hf d.fields,mthA hm d.methods] (fun r cs'=>r=.tup []∧∃ hf' hm',cs'=[psA m b ts (R p d).2,dA bd (R p d).1 hf' hm',fldA hf' (R p d).1.fields,mthA hm' (R p d).1.methods])

theorem body_i {R:PS→Dcl→Dcl×PS} {k:Nat} {p:PS} {d:Dcl} (hge:∀ (p:PS) (d:Dcl),p.i≤(R p d).2.i):p.i≤(bodyF ts R k p d).2.i∧((bodyF ts R k p d).2.err=0→p.i+1≤(bodyF ts R k p d).2.i):=by
 unfold bodyF
 simp only []
 have hi:(if k=16∧(nowF ts p).kind≠4 then failF ts 3 p else p).i=p.i:=by split;exact failF_i ts 3 p;rfl
 generalize (if k=16∧(nowF ts p).kind≠4 then failF ts 3 p else p)=p1 at *
 split
 ·rename_i h0
  have hg:=hge p1 d
  unfold needF
  split
  ·refine ⟨?_,fun _=>?_⟩
   ·show p.i≤(R p1 d).2.i+1;omega
   ·show p.i+1≤(R p1 d).2.i+1;omega
  ·refine ⟨by rw [failF_i];omega,fun h=>absurd h (failF_err ts (by decide) _)⟩
 ·rename_i h0
  exact ⟨by rw [hi];exact Nat.le_refl _,fun h=>absurd h h0⟩

include hT in
theorem rows_A (bd:Nat) {f:FuncId} {caps:List AV} {R:PS→Dcl→Dcl×PS} (hR:RowC m b ts bd f caps R) (p:PS) (hp:p.i<ts.length) (d:Dcl) (hf hm:Value) (hd:d.fields=[]∧d.methods=[]) :
  FnA Tryz.prog 103 [PT b 0,.p (cloRP f caps)] [psA m b ts p,dA bd d hf hm,fldA hf d.fields,mthA hm d.methods]
   (fun r cs'=>r=.tup []∧∃ hf' hm',cs'=[psA m b ts (rowsF ts R (ts.length+1) 0 (needF ts [123] p) d).2,dA bd (rowsF ts R (ts.length+1) 0 (needF ts [123] p) d).1 hf' hm',fldA hf' (rowsF ts R (ts.length+1) 0 (needF ts [123] p) d).1.fields,mthA hm' (rowsF ts R (ts.length+1) 0 (needF ts [123] p) d).1.methods]):=by
 refine fnA Tryz.func103 fun X=>?_
 have hlen:=hT.len
 have l1:=need_lt hT hp [123]
 repeat (first|refine sc rfl ?_|refine so rfl ?_)
 refine O_cA [0] (need_A m b ts hT p hp [123]) ?_
 rintro r cs' ⟨rfl,rfl⟩
 generalize needF ts [123] p=p0 at *
 generalize hFF:rowsF ts R (ts.length+1) 0 p0 d=F
 repeat (first|refine sc rfl ?_|refine so rfl ?_)
 refine C_loop (fun q:Nat×PS×Dcl×Value×Value=>⟨[(0,PT b 0),(1,.p (cloRP f caps)),(4,I64 (q.1:Nat))],[.abs (psA m b ts q.2.1),.abs (dA bd q.2.2.1 q.2.2.2.1 q.2.2.2.2),.abs (fldA q.2.2.2.1 q.2.2.1.fields),.abs (mthA q.2.2.2.2 q.2.2.1.methods)]⟩)
  (fun q=>q.2.1.i<ts.length∧q.2.2.1.fields.length≤q.1∧q.2.2.1.methods.length≤q.1∧q.1≤q.2.1.i+1∧(q.2.1.err=0→q.1≤q.2.1.i)∧∃ n,(q.2.1.err=0→ts.length-q.2.1.i<n)∧rowsF ts R n q.1 q.2.1 q.2.2.1=F)
  (fun q=>if q.2.1.err=0 then ts.length-q.2.1.i+1 else 0) (0,p0,d,hf,hm) ⟨l1,by simp [hd.1],by simp [hd.2],by simp,by simp,ts.length+1,fun _=>by simp only [];omega,hFF⟩ (Le.pick [0,0,0,0] ⟨rfl,rfl,rfl,trivial⟩ rfl) ?_
 rintro ⟨k,q,e,hf1,hm1⟩ ⟨g1,g2,g3,g4,g5,n,g6,g7⟩
 simp only [] at g1 g2 g3 g4 g5 g6 g7
 repeat (first|refine sc rfl ?_|refine so rfl ?_)
 refine O_cA [0] (well_A m b ts q) ?_
 rintro r cs' ⟨rfl,rfl⟩
 repeat refine so rfl ?_
 cases hw:q.err == 0 with
 | false =>
  have hF:F=(e,q):=by
   rw [← g7]
   cases n with
   | zero=>rfl
   | succ n=>simp only [rowsF];rw [if_neg (by simpa using hw)]
  repeat refine so rfl ?_
  refine C_false rfl rfl ?_
  repeat refine sc rfl ?_
  exact ⟨_,[_,_,_,_],_,rfl,.refl _,rfl,rfl,hf1,hm1,by rw [hF]⟩
 | true =>
 have hw':q.err=0:=by simpa using hw
 obtain ⟨n,rfl⟩:∃ n',n=n'+1:=⟨n-1,by have:=g6 hw';omega⟩
 have g6':=g6 hw'
 have g5':=g5 hw'
 simp only [rowsF,if_pos hw'] at g7
 repeat refine so rfl ?_
 refine O_cA [0] (may_A m b ts hT q g1 [125]) ?_
 rintro r cs' ⟨rfl,rfl⟩
 unfold mayP
 repeat refine so rfl ?_
 cases hm2:mayF ts [125] q with
 | true =>
  rw [hm2,if_pos rfl] at g7
  simp only [if_true]
  repeat refine sc rfl ?_
  refine C_false rfl rfl ?_
  repeat refine sc rfl ?_
  exact ⟨_,[_,_,_,_],_,rfl,.refl _,rfl,rfl,hf1,hm1,by rw [← g7]⟩
 | false =>
 rw [hm2,if_neg (by decide)] at g7
 simp only [Bool.false_eq_true,if_false]
 refine C_true rfl rfl ?_
 repeat (first|refine sc rfl ?_|refine so rfl ?_)
 refine O_join ⟨[(0,PT b 0),(1,.p (cloRP f caps)),(4,I64 (k:Nat)),(23,B (((k:Int) == 16)&&(nowF ts q).kind != 4))],[.abs (psA m b ts q),.abs (dA bd e hf1 hm1),.abs (fldA hf1 e.fields),.abs (mthA hm1 e.methods)]⟩ ?_ (fun s hs=>?_)
 ·cases hk:((k:Int) == 16) with
  | false =>
   repeat refine so rfl ?_
   exact Le.pick [0,0,0,0] ⟨rfl,rfl,rfl,rfl,trivial⟩ rfl
  | true =>
   repeat refine so rfl ?_
   refine O_cA [0] (now_A m b ts hT q g1) ?_
   rintro r cs' ⟨rfl,rfl⟩
   repeat refine sc rfl ?_
   refine O_Xd (X_field Tryz.underlying143 rfl rfl rfl rfl rfl rfl rfl) ?_
   repeat refine so rfl ?_
   exact Le.pick [0,0,0,0] ⟨rfl,rfl,rfl,rfl,trivial⟩ rfl
 refine C_le _ hs ?_
 generalize hp1:(if k=16∧(nowF ts q).kind≠4 then failF ts 3 q else q)=p1
 have hbF:bodyF ts R k q e=(if p1.err=0 then ((R p1 e).1,needF ts [59] (R p1 e).2) else (e,p1)):=by rw [← hp1];rfl
 have hi1:p1.i=q.i:=by rw [← hp1];split;exact failF_i ts 3 q;rfl
 have hbi:=body_i ts (k:=k) (p:=q) (d:=e) hR.ge
 refine C_ifJ ⟨[(0,PT b 0),(1,.p (cloRP f caps)),(4,I64 (k:Nat))],[.abs (psA m b ts p1),.abs (dA bd e hf1 hm1),.abs (fldA hf1 e.fields),.abs (mthA hm1 e.methods)]⟩ rfl (fun c1=>?_) (fun c1=>?_) (fun s hs=>C_le _ hs ?_)
 ·simp only [Bool.and_eq_true,beq_iff_eq,bne_iff_ne,ne_eq] at c1
  rw [if_pos ⟨by omega,c1.2⟩] at hp1
  repeat (first|refine sc rfl ?_|refine so rfl ?_)
  refine O_cA [0] (fail_A m b ts hT q g1 3) ?_
  rintro r cs' ⟨rfl,rfl⟩
  repeat refine so rfl ?_
  rw [hp1]
  exact Le.pick [0,0,0,0] ⟨rfl,rfl,rfl,trivial⟩ rfl
 ·have c2:¬(k=16∧(nowF ts q).kind≠4):=fun ⟨x1,x2⟩=>by subst x1;simp [x2] at c1
  rw [if_neg c2] at hp1
  repeat refine sc rfl ?_
  rw [hp1]
  exact Le.pick [0,0,0,0] ⟨rfl,rfl,rfl,trivial⟩ rfl
 repeat (first|refine sc rfl ?_|refine so rfl ?_)
 refine O_cA [0] (well_A m b ts p1) ?_
 rintro r cs' ⟨rfl,rfl⟩
 repeat refine so rfl ?_
 refine C_if rfl (fun c3=>?_) (fun c3=>?_)<;>simp only [pL] at c3
 ·rw [if_pos c3] at hbF
  have hlt:=hR.lt p1 e (by omega)
  have hfl:=hR.fl p1 e
  repeat (first|refine sc rfl ?_|refine so rfl ?_)
  refine O_callAV (avs:=[]) (isClo_p f caps) rfl (hR.run p1 e hf1 hm1 (by omega) (by omega) (by omega)) rfl rfl rfl rfl (cs:=[psA m b ts p1,dA bd e hf1 hm1,fldA hf1 e.fields,mthA hm1 e.methods]) (cr:=[]) (.refl _) rfl ?_
  rintro r cs' ⟨rfl,hf2,hm3,rfl⟩
  have hbi1:=hbi
  rw [hbF] at hbi1
  simp only [] at hbi1
  generalize R p1 e=x at *
  obtain ⟨e2,p2⟩:=x
  simp only [] at hlt hfl hbi1 ⊢
  repeat (first|refine sc rfl ?_|refine so rfl ?_)
  refine O_cA [0] (need_A m b ts hT p2 hlt [59]) ?_
  rintro r cs' ⟨rfl,rfl⟩
  have hl3:=need_lt hT hlt [59]
  repeat (first|refine sc rfl ?_|refine so rfl ?_)
  rw [w64 (x:=(k:Int)+1) (by omega) (by omega)]
  rw [hbF] at g7
  simp only [] at g7
  generalize needF ts [59] p2=p3 at *
  refine ⟨(k+1,p3,e2,hf2,hm3),⟨hl3,by simp only [];omega,by simp only [];omega,by simp only [];omega,fun h=>by simp only [] at h ⊢;have:=hbi1.2 h;omega,n,fun h=>by simp only [] at h ⊢;have:=hbi1.2 h;omega,g7⟩,?_,Le.pick [0,0,0,0] ⟨rfl,rfl,rfl,trivial⟩ rfl⟩
  simp only [if_pos hw']
  split
  ·rename_i h;have:=hbi1.2 h;omega
  ·omega
 ·rw [if_neg c3] at hbF
  repeat (first|refine sc rfl ?_|refine so rfl ?_)
  rw [w64 (x:=(k:Int)+1) (by omega) (by omega)]
  rw [hbF] at g7
  simp only [] at g7
  refine ⟨(k+1,p1,e,hf1,hm1),⟨by simp only [];omega,by simp only [];omega,by simp only [];omega,by simp only [];omega,fun h=>absurd h c3,n,fun h=>absurd h c3,g7⟩,?_,Le.pick [0,0,0,0] ⟨rfl,rfl,rfl,trivial⟩ rfl⟩
  simp only [if_pos hw',if_neg c3];omega
end
end Go.Proofs

namespace Go.Proofs
open Go.Sy Go.Lib

section
variable {ts:List Tok}
theorem next_ge (p:PS):p.i≤p.next.i:=Nat.le_succ _
theorem may_ge (s:List UInt8) (p:PS):p.i≤(mayP ts s p).i:=by unfold mayP;split;exact next_ge p;exact Nat.le_refl _
theorem need_ge (s:List UInt8) (p:PS):p.i≤(needF ts s p).i:=by unfold needF;split;exact next_ge p;rw [failF_i];exact Nat.le_refl _
theorem name_ge (p:PS):p.i≤(nameP ts p).i:=by
 unfold nameP
 have hi:(nmB ts p).i=p.i:=by unfold nmB;split;exact failF_i ts 5 p;rfl
 split
 ·omega
 ·show p.i≤(nmB ts p).i+1;omega
theorem num_ge (p:PS):p.i≤(numP ts p).i:=by
 unfold numP
 have hi:(numB ts p).i=p.i:=by unfold numB;split;exact failF_i ts 5 p;rfl
 split
 ·omega
 ·show p.i≤(numB ts p).i+1;omega
theorem base_ge {rec:Int→PS→Ty×PS} {deep:Int} (hr:∀ p:PS,p.i≤(rec (deep+1) p).2.i) (p:PS):p.i≤(baseF ts rec deep p).2.i:=by
 unfold baseF
 split
 ·exact next_ge p
 ·split
  ·exact Nat.le_trans (next_ge p) (Nat.le_trans (need_ge [60] _) (Nat.le_trans (hr _) (need_ge _ _)))
  ·split
   ·exact Nat.le_trans (next_ge p) (Nat.le_trans (need_ge [60] _) (Nat.le_trans (hr _) (Nat.le_trans (need_ge _ _) (Nat.le_trans (hr _) (need_ge _ _)))))
   ·exact name_ge p
theorem typ_ge:∀ (n:Nat) (deep:Int) (p:PS),p.i≤(typF ts n deep p).2.i
 | 0,_,p=>Nat.le_refl _
 | n+1,deep,p=>by
  have hd:(dpP ts deep p).i=p.i:=by unfold dpP;split;exact failF_i ts 10 p;rfl
  have hb:=base_ge (ts:=ts) (rec:=typF ts n) (deep:=deep) (fun q=>typ_ge n (deep+1) q) (dpP ts deep p)
  unfold typF
  split
  ·show p.i≤(dpP ts deep p).i;omega
  ·split
   ·show p.i≤(baseF ts (typF ts n) deep (dpP ts deep p)).2.i+1;omega
   ·omega
theorem field_ge (p:PS) (d:Dcl):p.i≤(fieldR ts p d).2.i :=
 Nat.le_trans (num_ge p) (Nat.le_trans (name_ge _) (Nat.le_trans (need_ge [58] _) (typ_ge 10 0 _)))
theorem enum_ge (p:PS) (d:Dcl):p.i≤(enumR ts p d).2.i:=Nat.le_trans (num_ge p) (name_ge _)
theorem meth_ge (p:PS) (d:Dcl):p.i≤(methR ts p d).2.i :=
 Nat.le_trans (may_ge _ p) (Nat.le_trans (num_ge _) (Nat.le_trans (name_ge _) (Nat.le_trans (need_ge _ _) (Nat.le_trans (name_ge _) (Nat.le_trans (need_ge _ _) (Nat.le_trans (need_ge _ _) (name_ge _)))))))
theorem rows_ge {R:PS→Dcl→Dcl×PS} (hge:∀ (p:PS) (d:Dcl),p.i≤(R p d).2.i):∀ (n k:Nat) (p:PS) (d:Dcl),p.i≤(rowsF ts R n k p d).2.i
 | 0,_,p,d=>Nat.le_refl _
 | n+1,k,p,d=>by
  unfold rowsF
  split
  ·split
   ·exact next_ge p
   ·exact Nat.le_trans (body_i ts hge).1 (rows_ge hge n (k+1) _ _)
  ·exact Nat.le_refl _
variable (hT:TsOK ts)
include hT in
theorem field_lt (p:PS) (d:Dcl) (hp:p.i<ts.length):(fieldR ts p d).2.i<ts.length:=typ_lt hT 10 0 _ (need_lt hT (name_lt hT (num_lt hT hp)) _)
include hT in
theorem enum_lt (p:PS) (d:Dcl) (hp:p.i<ts.length):(enumR ts p d).2.i<ts.length:=name_lt hT (num_lt hT hp)
include hT in
theorem meth_lt (p:PS) (d:Dcl) (hp:p.i<ts.length):(methR ts p d).2.i<ts.length :=
 name_lt hT (need_lt hT (need_lt hT (name_lt hT (need_lt hT (name_lt hT (num_lt hT (may_lt hT hp _))) _)) _) _)
include hT in
theorem body_lt {R:PS→Dcl→Dcl×PS} {k:Nat} {p:PS} {d:Dcl} (hlt:∀ (p:PS) (d:Dcl),p.i<ts.length→(R p d).2.i<ts.length) (hp:p.i<ts.length):(bodyF ts R k p d).2.i<ts.length:=by
 unfold bodyF
 simp only []
 have hi:(if k=16∧(nowF ts p).kind≠4 then failF ts 3 p else p).i<ts.length:=by split;rw [failF_i];exact hp;exact hp
 generalize (if k=16∧(nowF ts p).kind≠4 then failF ts 3 p else p)=p1 at *
 split
 ·exact need_lt hT (hlt _ _ hi) _
 ·exact hi
include hT in
theorem rows_lt {R:PS→Dcl→Dcl×PS} (hlt:∀ (p:PS) (d:Dcl),p.i<ts.length→(R p d).2.i<ts.length):∀ (n k:Nat) (p:PS) (d:Dcl),p.i<ts.length→(rowsF ts R n k p d).2.i<ts.length
 | 0,_,p,d,hp=>hp
 | n+1,k,p,d,hp=>by
  unfold rowsF
  split
  ·split
   ·rename_i h;exact next_lt hT hp h
   ·exact rows_lt hlt n (k+1) _ _ (body_lt hT hlt hp)
  ·exact hp
end

def headF (ts:List Tok) (p:PS):Int×(PS→Dcl→Dcl×PS)×PS :=
 if mayF ts [115,116,114,117,99,116] p then (1,fieldR ts,p.next) else if mayF ts [117,110,105,111,110] p then (2,fieldR ts,p.next) else
 if mayF ts [101,110,117,109] p then (3,enumR ts,p.next) else if mayF ts [115,101,114,118,105,99,101] p then (4,methR ts,p.next) else (0,fieldR ts,failF ts 5 p)
def declF (ts:List Tok) (p:PS):Dcl×PS :=
 rowsF ts (headF ts p).2.1 (ts.length+1) 0 (needF ts [123] (nameP ts (headF ts p).2.2)) ⟨(headF ts p).1,nameV ts (headF ts p).2.2,[],[],(nowF ts p).at_⟩

section
variable (m:Int) (b:Nat) (ts:List Tok) (hT:TsOK ts)
include hT in
theorem fieldC (bd:Nat):RowC m b ts bd 94 [.cp [PT b 0],PT bd 0] (fieldR ts) :=
 ⟨fun p d hp=>field_lt hT p d hp,field_ge,fun p d=>by simp [fieldR],fun p d hf hm hp h1 h2=>(field_A m b ts hT p hp bd d hf hm h1).mono (fun r cs' ⟨h,hf',h'⟩=>⟨h,hf',hm,h'⟩)⟩
include hT in
theorem enumC (bd:Nat):RowC m b ts bd 100 [PT bd 0,.cp [PT b 0]] (enumR ts) :=
 ⟨fun p d hp=>enum_lt hT p d hp,enum_ge,fun p d=>by simp [enumR],fun p d hf hm hp h1 h2=>(enum_A m b ts hT p hp bd d hf hm h1).mono (fun r cs' ⟨h,hf',h'⟩=>⟨h,hf',hm,h'⟩)⟩
include hT in
theorem methC (bd:Nat):RowC m b ts bd 101 [PT bd 0,.cp [PT b 0]] (methR ts) :=
 ⟨fun p d hp=>meth_lt hT p d hp,meth_ge,fun p d=>by simp [methR],fun p d hf hm hp h1 h2=>(service_A m b ts hT p hp bd d hf hm h2).mono (fun r cs' ⟨h,hm',h'⟩=>⟨h,hf,hm',h'⟩)⟩

include hT in
theorem decl_A (p:PS) (hp:p.i<ts.length):FnA Tryz.prog 56 [PT b 0] [psA m b ts p] (fun r cs'=>r=.agg (Dcl.c (declF ts p).1)∧cs'=[psA m b ts (declF ts p).2]):=by
 refine fnA Tryz.func56 fun X=>?_
 have hlen:=hT.len
 repeat (first|refine O_le _ (Le.freezebox 1 rfl rfl rfl) ?_|refine sc rfl ?_|refine so rfl ?_|refine sb rfl ?_)
 refine O_cA [1] (now_A m b ts hT p hp) ?_
 rintro r cs' ⟨rfl,rfl⟩
 repeat refine sc rfl ?_
 refine O_Xd (X_field Tryz.underlying143 rfl rfl rfl rfl rfl rfl rfl) ?_
 repeat (first|refine sc rfl ?_|refine so rfl ?_)
 refine O_absb 3 rfl rfl rfl (fun bd=>?_)
 refine O_makeFunc rfl rfl rfl rfl ?_
 refine O_le _ (Le.addVec 60 5 (fun i=>Fld.c (([]:List Fld).getD i default))) ?_
 refine O_le _ (Le.addVec 127 5 (fun i=>Mth.c (([]:List Mth).getD i default))) ?_
 iterate 8 (first|refine sc rfl ?_|refine so rfl ?_)
 refine C_joinE (α:=FuncId×List AV×(PS→Dcl→Dcl×PS)×Int×PS) (fun q=>⟨[(1,.cp [PT b 0]),(2,.bp 2 0),(3,PT bd 0),(5,.p (cloRP q.1 q.2.1))],[.abs (psA m b ts q.2.2.2.2),.abs (dA bd ⟨q.2.2.2.1,[],[],[],(nowF ts p).at_⟩ (.slice none 0 0) (.slice none 0 0)),.abs (fldA (.slice none 0 0) []),.abs (mthA (.slice none 0 0) []),.box 2 53 [I64 0,.s [],.v (.slice none 0 0),.v (.slice none 0 0),I64 0]]⟩)
  (fun q=>RowC m b ts bd q.1 q.2.1 q.2.2.1∧headF ts p=(q.2.2.2.1,q.2.2.1,q.2.2.2.2)∧q.2.2.2.2.i<ts.length) ?_ ?_
 ·skip
  repeat (first|refine sc rfl ?_|refine so rfl ?_)
  refine O_cA [3] (may_A m b ts hT p hp [115,116,114,117,99,116]) ?_
  rintro r cs' ⟨rfl,rfl⟩
  unfold mayP
  repeat refine so rfl ?_
  cases ha:mayF ts [115,116,114,117,99,116] p with
  | true =>
   refine C_true rfl rfl ?_
   simp only [if_true]
   repeat (first|refine sc rfl ?_|refine so rfl ?_)
   refine O_Xn (X_storeP 3 (A:=dA bd ⟨0,[],[],[],(nowF ts p).at_⟩ (.slice none 0 0) (.slice none 0 0)) (writes_box (by show 0<5;decide)) rfl rfl rfl rfl rfl rfl rfl) ?_
   repeat refine so rfl ?_
   exact ⟨(94,[.cp [PT b 0],PT bd 0],fieldR ts,1,p.next),⟨fieldC m b ts hT bd,by unfold headF;simp only [ha,Bool.false_eq_true,if_false,if_true],next_lt hT hp ha⟩,Le.pick [1,0,1,0,0] ⟨rfl,rfl,rfl,rfl,trivial⟩ rfl⟩
  | false =>
  refine C_false rfl rfl ?_
  simp only [Bool.false_eq_true,if_false]
  repeat (first|refine sc rfl ?_|refine so rfl ?_)
  refine O_cA [0] (may_A m b ts hT p hp [117,110,105,111,110]) ?_
  rintro r cs' ⟨rfl,rfl⟩
  unfold mayP
  repeat refine so rfl ?_
  cases hb:mayF ts [117,110,105,111,110] p with
  | true =>
   refine C_true rfl rfl ?_
   simp only [if_true]
   repeat (first|refine sc rfl ?_|refine so rfl ?_)
   refine O_Xn (X_storeP 3 (A:=dA bd ⟨0,[],[],[],(nowF ts p).at_⟩ (.slice none 0 0) (.slice none 0 0)) (writes_box (by show 0<5;decide)) rfl rfl rfl rfl rfl rfl rfl) ?_
   repeat refine so rfl ?_
   exact ⟨(94,[.cp [PT b 0],PT bd 0],fieldR ts,2,p.next),⟨fieldC m b ts hT bd,by unfold headF;simp only [ha,hb,Bool.false_eq_true,if_false,if_true],next_lt hT hp hb⟩,Le.pick [1,0,1,0,0] ⟨rfl,rfl,rfl,rfl,trivial⟩ rfl⟩
  | false =>
  refine C_false rfl rfl ?_
  simp only [Bool.false_eq_true,if_false]
  repeat (first|refine sc rfl ?_|refine so rfl ?_)
  refine O_cA [0] (may_A m b ts hT p hp [101,110,117,109]) ?_
  rintro r cs' ⟨rfl,rfl⟩
  unfold mayP
  repeat refine so rfl ?_
  cases hc:mayF ts [101,110,117,109] p with
  | true =>
   refine C_true rfl rfl ?_
   simp only [if_true]
   repeat (first|refine sc rfl ?_|refine so rfl ?_)
   refine O_Xn (X_storeP 3 (A:=dA bd ⟨0,[],[],[],(nowF ts p).at_⟩ (.slice none 0 0) (.slice none 0 0)) (writes_box (by show 0<5;decide)) rfl rfl rfl rfl rfl rfl rfl) ?_
   repeat (first|refine sc rfl ?_|refine so rfl ?_)
   refine O_makeFunc rfl rfl rfl rfl ?_
   repeat refine so rfl ?_
   exact ⟨(100,[PT bd 0,.cp [PT b 0]],enumR ts,3,p.next),⟨enumC m b ts hT bd,by unfold headF;simp only [ha,hb,hc,Bool.false_eq_true,if_false,if_true],next_lt hT hp hc⟩,Le.pick [1,0,1,0,0] ⟨rfl,rfl,rfl,rfl,trivial⟩ rfl⟩
  | false =>
  refine C_false rfl rfl ?_
  simp only [Bool.false_eq_true,if_false]
  repeat (first|refine sc rfl ?_|refine so rfl ?_)
  refine O_cA [0] (may_A m b ts hT p hp [115,101,114,118,105,99,101]) ?_
  rintro r cs' ⟨rfl,rfl⟩
  unfold mayP
  repeat refine so rfl ?_
  cases hd:mayF ts [115,101,114,118,105,99,101] p with
  | true =>
   refine C_true rfl rfl ?_
   simp only [if_true]
   repeat (first|refine sc rfl ?_|refine so rfl ?_)
   refine O_Xn (X_storeP 3 (A:=dA bd ⟨0,[],[],[],(nowF ts p).at_⟩ (.slice none 0 0) (.slice none 0 0)) (writes_box (by show 0<5;decide)) rfl rfl rfl rfl rfl rfl rfl) ?_
   repeat (first|refine sc rfl ?_|refine so rfl ?_)
   refine O_makeFunc rfl rfl rfl rfl ?_
   repeat refine so rfl ?_
   exact ⟨(101,[PT bd 0,.cp [PT b 0]],methR ts,4,p.next),⟨methC m b ts hT bd,by unfold headF;simp only [ha,hb,hc,hd,Bool.false_eq_true,if_false,if_true],next_lt hT hp hd⟩,Le.pick [1,0,1,0,0] ⟨rfl,rfl,rfl,rfl,trivial⟩ rfl⟩
  | false =>
  refine C_false rfl rfl ?_
  simp only [Bool.false_eq_true,if_false]
  repeat (first|refine sc rfl ?_|refine so rfl ?_)
  refine O_cA [0] (fail_A m b ts hT p hp 5) ?_
  rintro r cs' ⟨rfl,rfl⟩
  repeat refine so rfl ?_
  exact ⟨(94,[.cp [PT b 0],PT bd 0],fieldR ts,0,failF ts 5 p),⟨fieldC m b ts hT bd,by unfold headF;simp only [ha,hb,hc,hd,Bool.false_eq_true,if_false],by show (failF ts 5 p).i<_;rw [failF_i];exact hp⟩,Le.pick [0,2,1,0,0] ⟨rfl,rfl,rfl,rfl,trivial⟩ rfl⟩
 ·rintro ⟨f,caps,R,k,p1⟩ s ⟨hR,hH,h1⟩ hs
  simp only [] at hR hH h1 hs
  refine C_le _ hs ?_
  have hD:declF ts p=rowsF ts R (ts.length+1) 0 (needF ts [123] (nameP ts p1)) ⟨k,nameV ts p1,[],[],(nowF ts p).at_⟩:=by unfold declF;rw [hH]
  have l2:=name_lt hT h1
  repeat (first|refine sc rfl ?_|refine so rfl ?_)
  refine O_cA [0] (name_A m b ts hT p1 h1) ?_
  rintro r cs' ⟨rfl,rfl⟩
  repeat refine so rfl ?_
  refine O_Xn (X_storeP 1 (A:=dA bd ⟨k,[],[],[],(nowF ts p).at_⟩ (.slice none 0 0) (.slice none 0 0)) (writes_box (by show 1<5;decide)) rfl rfl rfl rfl rfl rfl rfl) ?_
  repeat (first|refine sc rfl ?_|refine so rfl ?_)
  refine O_cA [1,0,0,0] (rows_A m b ts hT bd hR (nameP ts p1) l2 ⟨k,nameV ts p1,[],[],(nowF ts p).at_⟩ (.slice none 0 0) (.slice none 0 0) ⟨rfl,rfl⟩) ?_
  rintro r cs' ⟨rfl,hf',hm',rfl⟩
  rw [← hD]
  generalize declF ts p=x at *
  obtain ⟨d,p3⟩:=x
  simp only []
  refine O_le _ (Le.frVec 2 (fun i=>Fld.c (d.fields.getD i default)) rfl (fun i hi=>rfl)) ?_
  refine O_le _ (Le.cellA 2 0 2 rfl rfl) ?_
  refine O_le _ (Le.frVec 2 (fun i=>Mth.c (d.methods.getD i default)) rfl (fun i hi=>rfl)) ?_
  refine O_le _ (Le.cellA 1 0 3 rfl rfl) ?_
  repeat (first|refine sc rfl ?_|refine so rfl ?_)
  refine O_loadP 0 (A:=boxA bd 53 (Dcl.c d)) (reads_box 0) rfl rfl rfl rfl rfl rfl ?_
  repeat (first|refine sc rfl ?_|refine so rfl ?_)
  exact ⟨_,[psA m b ts p3],_,rfl,pickA_perm (is:=[2]) (As:=[_]) rfl,rfl,rfl,rfl⟩
end
end Go.Proofs

namespace Go.Sy
open Go.RowKit

def bndRP (f : FuncId) (fs : List AV) : RP :=
  { R := fun G y => ∃ vs : Array Value, y = .func (.func f) vs #[] ∧ RepIT G fs vs.toList
    mono := by
      rintro G H h v ⟨vs, e, r⟩
      exact ⟨vs, e, RepIT.mono h fs r⟩
    one := by
      rintro G v ⟨vs, e, r⟩
      subst e; rfl }

section
variable {P:Program} {T:Tab} {X:Ctx P T} {n:Nat} {e:Env} {st:St} {a:Act} {w:World} {ops:Array Oper} {K:St→Prop}

theorem O_makeBound {f:FuncId} {fs:Array Operand} {favs:List AV} {d:Nat} {ty:TypeId} {pos:String} {aft:Array Edge} {gd:Option (Nat×Bool)} {rest:List Oper} {s:List (Nat×AV)} {c:List Ch}
  (hg:guardA ops ⟨s,c⟩ ⟨some d,.makeFunc (.func f) fs #[],ty,pos,aft,gd⟩=some true) (ha:opds s fs.toList=some favs) (himm:AV.imm.immL favs=true) (hd:Nat.blt d n=true)
  (kk:SymO X n ops rest ⟨(d,.p (bndRP f favs))::s,c⟩ K):SymO X n ops (⟨some d,.makeFunc (.func f) fs #[],ty,pos,aft,gd⟩::rest) ⟨s,c⟩ K:=by
 intro e a w Q r hq
 unfold wpList
 rw [if_pos (guardA_sound r hg)]
 refine .inl ?_
 have h1:=RepT.toI favs himm (opds_sound r ha)
 have hrun:(execOp a.eval ⟨some d,.makeFunc (.func f) fs #[],ty,pos,aft,gd⟩).run P w=.ok (.value (.func (.func f) (fs.map a.eval) #[])) w:=by
  simp [execOp,Instr.makeFunc]
 unfold Oper.wp
 rw [hrun]
 exact kk _ _ _ Q (r.put hd (by simp only [Rep];exact ⟨_,rfl,by rw [map_eval];exact h1⟩)) hq

theorem run_callBound {f:FuncId} (hc:Callable P f) {dst:Option Tmp} {x:Operand} {args:Array Operand} {tys:Array TypeId} {ty:TypeId} {pos:String} {aft:Array Edge} {gd:Option (Nat×Bool)} (ρ:Operand→Value)
  {vs:Array Value} (hρ:ρ x=.func (.func f) vs #[]) (w:World) :
  (execOp ρ ⟨dst,.call ⟨.value x,args,tys⟩,ty,pos,aft,gd⟩).run P w=.ok (.enter f (vs++args.map ρ)) w:=by
 obtain ⟨fn,h1,h2,h3⟩:=hc
 simp only [execOp,resolve,hρ,Deferred.ofValue,Sem.run_bind,Sem.run_pure,Result.andThen_ok,invoke]
 have h4:¬ fn.body=none:=by intro h;simp [h] at h2
 have h5 : ¬ fn.name = "runtime.NumGoroutine" := by simpa using h3
 simp [callFunc,h1,h4,h5]

theorem O_callBound (is:List Nat) {f:FuncId} {xo:Operand} {fs:List AV} {dst:Nat} {args:Array Operand} {tys:Array TypeId} {ty:TypeId} {pos:String} {aft:Array Edge} {gd:Option (Nat×Bool)} {rest:List Oper} {avs:List AV} {cs:List Abs} {cr:List Ch} {post:AV→List Abs→Prop}
  {s:List (Nat×AV)} {c:List Ch} (hf:FnA P f (fs++avs) cs post) (hxo:opd s xo=some (.p (bndRP f fs)))
  (hg:guardA ops ⟨s,c⟩ ⟨some dst,.call ⟨.value xo,args,tys⟩,ty,pos,aft,gd⟩=some true) (ha:opds s args.toList=some avs) (himm:AV.imm.immL avs=true)
  (hp:pickA is c=some (cs,cr)) (hd:Nat.blt dst n=true)
  (k:∀ r cs',post r cs'→SymO X n ops rest ⟨(dst,r)::s,cs'.map Ch.abs++cr⟩ K) :
  SymO X n ops (⟨some dst,.call ⟨.value xo,args,tys⟩,ty,pos,aft,gd⟩::rest) ⟨s,c⟩ K:=by
 intro e a w Q r hq
 unfold wpList
 rw [if_pos (guardA_sound r hg)]
 refine .inl ?_
 unfold Oper.wp
 have hx:=Rep.toI (.p (bndRP f fs)) rfl (opd_sound r hxo)
 simp only [RepI] at hx
 obtain ⟨vs,hfv,hvs⟩:=hx
 rw [run_callBound hf.1 a.eval hfv w,Oper.upon_enter]
 have h1:=RepIT.app hvs (RepT.toI avs himm (opds_sound r ha))
 have harr:vs++args.map a.eval=(vs.toList++args.toList.map a.eval).toArray:=by
  apply Array.ext';simp
 rw [harr]
 refine (call_after (ops:=ops) (Q:=Q) hf r h1 (pickA_perm hp) hd k hq).mono ?_
 rintro en w' ⟨cv,rfl,h⟩
 exact h
end
end Go.Sy

namespace Go.Sy
open Go.RowKit

section
variable {P:Program} {T:Tab} {X:Ctx P T} {n:Nat} {e:Env} {st:St} {a:Act} {w:World} {ops:Array Oper} {K:St→Prop}

theorem X_lenV (q:Nat) {p:Pl} {t tt el sz0 b0:Nat} {ag0:Bool} {z0:List Value} {x:Operand} {h:Value} {m esz:Nat} {row:Nat→List AV} {d:Option Nat} {ty:TypeId} {pos:String} {aft:Array Edge} {gd:Option (Nat×Bool)} {j:Nat} {Si:List (Nat×AV)} {c cr:List Ch}
  (hT:T t=some ⟨sz0,b0,ag0,z0,.slice el⟩) (hg:guardA ops ⟨Si,c⟩ ⟨d,.call ⟨.builtin .len,#[x],#[t]⟩,ty,pos,aft,gd⟩=some true) (hx:opd Si x=some (.v h)) (hp:nthA q c=some (vecA h tt esz m row,cr)) (hd:dstOK n d=true) :
  StepX X n ops p Si c c j ⟨d,.call ⟨.builtin .len,#[x],#[t]⟩,ty,pos,aft,gd⟩ (I64 (m:Nat)) :=
 StepX.val hg hd (fun e a w S r r'=>by
  obtain ⟨⟨xs,g1,g2⟩,_⟩:=r.heap.nth hp
  have hh:∃ aa cc,h=.slice aa m cc:=by
   rcases g1.2 with ⟨hnil,hm⟩|⟨g,cap,cur,hsl,_⟩
   ·exact ⟨none,0,by rw [hnil,hm]⟩
   ·exact ⟨_,_,hsl⟩
  obtain ⟨aa,cc,rfl⟩:=hh
  have hs:still T ⟨Si,c⟩ (.call ⟨.builtin .len,#[x],#[t]⟩)=some (I64 (m:Nat)):=by
   simp [still,hT,hx]
  obtain ⟨v,h2,h1⟩:=still_sound (o:=⟨d,.call ⟨.builtin .len,#[x],#[t]⟩,ty,pos,aft,gd⟩) r' hs
  exact ⟨v,w,e,h1 w (SameAs.refl w),r,h2⟩)
end
end Go.Sy

namespace Go.Proofs
open Go.Sy Go.Lib

theorem mem_getD {α:Type} [Inhabited α] {l:List α} {i:Nat} (h:i<l.length):l.getD i default∈l:=by
 rw [getD_at h];exact List.getElem_mem h
theorem oneF_txt {s:List UInt8} {i:Nat} (hs:s.length≤1024):∀ t∈(oneF s i).2.2,t.text.length≤1024:=by
 have htw:∀ p:UInt8→Bool,((s.drop i).takeWhile p).length≤1024:=fun p=>Nat.le_trans (List.takeWhile_sublist p).length_le (by rw [List.length_drop];omega)
 unfold oneF
 simp only []
 intro t ht
 split at ht
 ·unfold wordF at ht
  simp only [] at ht
  split at ht
  ·cases ht
  ·simp only [List.mem_singleton] at ht;subst ht;exact htw _
 ·split at ht
  ·unfold nmbF at ht
   simp only [] at ht
   split at ht
   ·cases ht
   ·split at ht
    ·cases ht
    ·simp only [List.mem_singleton] at ht;subst ht;exact htw _
  ·split at ht
   ·split at ht<;>cases ht
   ·split at ht
    ·cases ht
    ·split at ht
     ·cases ht
     ·simp only [List.mem_singleton] at ht;subst ht;simp

theorem lexF_ok {s:List UInt8} (hs:s.length≤1024):∀ (n i:Nat) (ts:List Tok) (at_:Int) (T:List Tok),s.length-i<n→i≤s.length→ts.length≤i→(∀ t∈ts,t.text.length≤1024)→lexF s n i ts=(0,at_,T) →
  ∃ pre,T=pre++[⟨4,[],0,(s.length:Nat)⟩]∧pre.length≤s.length∧∀ t∈pre,t.text.length≤1024
 | 0,i,ts,at_,T,h,_,_,_,_=>by omega
 | n+1,i,ts,at_,T,hn,hi,hl,ht,h=>by
  simp only [lexF] at h
  by_cases hil:i<s.length
  ·rw [if_pos hil] at h
   by_cases h0:(oneF s i).1=0
   ·rw [if_pos h0] at h
    have hok:=oneF_ok hil h0
    refine lexF_ok hs n _ _ at_ T (by omega) hok.2.1 (by rw [List.length_append];omega) (fun t hm=>?_) h
    rcases List.mem_append.1 hm with hm|hm
    ·exact ht t hm
    ·exact oneF_txt hs t hm
   ·rw [if_neg h0] at h
    simp only [Prod.mk.injEq] at h
    exact absurd h.1 h0
  ·rw [if_neg hil] at h
   simp only [Prod.mk.injEq] at h
   exact ⟨ts,h.2.2.symm,by omega,ht⟩

theorem tokF_ok {s:List UInt8} (h:(tokF s).1=0):TsOK (tokF s).2.2∧0<(tokF s).2.2.length:=by
 unfold tokF at h ⊢
 split at h
 ·cases h
 ·rename_i hs
  rw [if_neg hs]
  have hs':s.length≤1024:=by omega
  obtain ⟨pre,h1,h2,h3⟩:=lexF_ok hs' (s.length+1) 0 [] (lexF s (s.length+1) 0 []).2.1 (lexF s (s.length+1) 0 []).2.2 (by omega) (Nat.zero_le _) (Nat.le_refl _) (fun t ht=>absurd ht (by simp)) (by rw [← h])
  rw [h1]
  refine ⟨⟨by rw [List.length_append,List.length_singleton];omega,fun i hi hk=>?_,fun i hi=>?_⟩,by simp⟩
  ·rw [List.length_append,List.length_singleton] at hi ⊢
   rcases Nat.lt_or_ge i pre.length with hlt|hge
   ·omega
   ·exfalso
    have hie:i=pre.length:=by omega
    subst hie
    rw [List.getD_eq_getElem?_getD,List.getElem?_append_right (Nat.le_refl _),Nat.sub_self] at hk
    simp at hk
  ·have:=mem_getD hi
   rcases List.mem_append.1 this with hm|hm
   ·exact h3 _ hm
   ·simp only [List.mem_singleton] at hm;rw [hm];simp

def parF (ts:List Tok):Nat→PS→List Dcl→List Dcl×PS
 | 0,p,out=>(out,p)
 | n+1,p,out=>if p.err=0∧(nowF ts p).kind≠4 then (if out.length=16 then (out,failF ts 3 p) else parF ts n (declF ts p).2 (out++[(declF ts p).1])) else (out,p)
def parseF (s:List UInt8):List Dcl×Int×Int :=
 if (tokF s).1≠0 then ([],(tokF s).1,(tokF s).2.1) else
 ((parF (tokF s).2.2 ((tokF s).2.2.length+1) ⟨0,0,0⟩ []).1,(parF (tokF s).2.2 ((tokF s).2.2.length+1) ⟨0,0,0⟩ []).2.err,(parF (tokF s).2.2 ((tokF s).2.2.length+1) ⟨0,0,0⟩ []).2.fat)
def ParP (s:List UInt8) (r:AV):Prop :=
 ((parseF s).2.1≠0∧r=.tup [.v (.slice none 0 0),.agg [I64 (parseF s).2.1,I64 (parseF s).2.2]])∨((parseF s).2.1=0∧r=.tup [SL 5 Dcl.c (parseF s).1,.agg [I64 0,I64 0]])

def glbA (m:Int):Abs where
 bs:=[]
 ok:=fun G w=>G 0 0=some (.int .i64 m)
 keep:=fun hG _ h=>hG.1 _ _ _ h

theorem head_adv {ts:List Tok} (p:PS):p.i≤(headF ts p).2.2.i∧((headF ts p).2.2.err=0→p.i+1≤(headF ts p).2.2.i):=by
 unfold headF
 repeat' split
 all_goals first
  | exact ⟨Nat.le_succ _,fun _=>Nat.le_refl _⟩
  | exact ⟨by show p.i≤(failF ts 5 p).i;rw [failF_i];exact Nat.le_refl _,fun h=>absurd h (failF_err ts (by decide) p)⟩
theorem failF_keep {ts:List Tok} {e:Int} {p:PS} (h:p.err≠0):failF ts e p=p:=by unfold failF;rw [if_neg h]
theorem need_keep {ts:List Tok} {s:List UInt8} {p:PS} (h:p.err≠0):(needF ts s p).err≠0:=by
 have hm:mayF ts s p=false:=by unfold mayF;rw [show (p.err == 0)=false by simpa using h];rfl
 unfold needF
 rw [hm,if_neg (by decide),failF_keep h];exact h
theorem name_keep {ts:List Tok} {p:PS} (h:p.err≠0):(nameP ts p).err≠0:=by
 have hb:(nmB ts p).err≠0:=by
  unfold nmB;split
  ·rw [failF_keep h];exact h
  ·exact h
 unfold nameP
 rw [if_pos hb];exact hb
theorem rows_keep {ts:List Tok} {R:PS→Dcl→Dcl×PS} {n k:Nat} {p:PS} {d:Dcl} (h:p.err≠0):(rowsF ts R n k p d).2.err≠0:=by
 cases n with
 | zero=>exact h
 | succ n=>unfold rowsF;rw [if_neg h];exact h
theorem headR {ts:List Tok} (p:PS):∀ (q:PS) (d:Dcl),q.i≤((headF ts p).2.1 q d).2.i:=by
 intro q d
 unfold headF
 repeat' split
 all_goals first
  | exact field_ge q d
  | exact enum_ge q d
  | exact meth_ge q d
theorem decl_adv {ts:List Tok} (p:PS) (h:(declF ts p).2.err=0):p.i+1≤(declF ts p).2.i:=by
 have ha:=head_adv (ts:=ts) p
 by_cases h0:(headF ts p).2.2.err=0
 ·have h1:=ha.2 h0
  refine Nat.le_trans h1 ?_
  exact Nat.le_trans (name_ge _) (Nat.le_trans (need_ge [123] _) (rows_ge (headR p) _ _ _ _))
 ·exact absurd h (rows_keep (need_keep (name_keep h0)))
theorem headRlt {ts:List Tok} (hT:TsOK ts) (p:PS):∀ (q:PS) (d:Dcl),q.i<ts.length→((headF ts p).2.1 q d).2.i<ts.length:=by
 intro q d hq
 unfold headF
 repeat' split
 all_goals first
  | exact field_lt hT q d hq
  | exact enum_lt hT q d hq
  | exact meth_lt hT q d hq
theorem head_lt {ts:List Tok} (hT:TsOK ts) {p:PS} (hp:p.i<ts.length):(headF ts p).2.2.i<ts.length:=by
 unfold headF
 split
 ·exact next_lt hT hp (by assumption)
 ·split
  ·exact next_lt hT hp (by assumption)
  ·split
   ·exact next_lt hT hp (by assumption)
   ·split
    ·exact next_lt hT hp (by assumption)
    ·show (failF ts 5 p).i<_;rw [failF_i];exact hp
theorem decl_lt {ts:List Tok} (hT:TsOK ts) {p:PS} (hp:p.i<ts.length):(declF ts p).2.i<ts.length :=
 rows_lt hT (headRlt hT p) _ _ _ _ (need_lt hT (name_lt hT (head_lt hT hp)) _)
abbrev outA (h:Value) (out:List Dcl):Abs:=vecA h 53 5 out.length (fun i=>Dcl.c (out.getD i default))

theorem Parse_A (m:Int) (s:List UInt8):FnA Tryz.prog 31 [.s s] [glbA m] (fun r cs'=>ParP s r∧cs'=[glbA m]):=by
 refine fnA Tryz.func31 fun X=>?_
 repeat (first|refine sc rfl ?_|refine so rfl ?_)
 refine O_cP (Tokens_c s) fun r hr=>?_
 rcases hr with ⟨h0,rfl⟩|⟨h0,rfl⟩
 ·repeat (first|refine sc rfl ?_|refine so rfl ?_)
  refine C_true rfl (by simp [h0]) ?_
  repeat refine sc rfl ?_
  refine C_drawU 20 2 rfl (by kernel_rfl) (by kernel_rfl) (by kernel_rfl) ?_
  repeat refine sd rfl ?_
  repeat (first|refine sc rfl ?_|refine so rfl ?_)
  have e:parseF s=([],(tokF s).1,(tokF s).2.1):=by unfold parseF;rw [if_pos h0]
  exact ⟨_,[glbA m],_,rfl,pickA_perm (is:=[2]) (As:=[_]) rfl,rfl,.inl ⟨by rw [e];exact h0,by rw [e];rfl⟩,rfl⟩
 ·obtain ⟨hT,hpos⟩:=tokF_ok h0
  have hP:parseF s=((parF (tokF s).2.2 ((tokF s).2.2.length+1) ⟨0,0,0⟩ []).1,(parF (tokF s).2.2 ((tokF s).2.2.length+1) ⟨0,0,0⟩ []).2.err,(parF (tokF s).2.2 ((tokF s).2.2.length+1) ⟨0,0,0⟩ []).2.fat):=by unfold parseF;rw [if_neg (fun h=>h h0)]
  generalize (tokF s).2.2=ts at *
  repeat (first|refine sc rfl ?_|refine so rfl ?_)
  refine C_false rfl rfl ?_
  iterate 9 (first|refine sc rfl ?_|refine so rfl ?_)
  refine C_absb 6 rfl rfl rfl (fun b=>?_)
  refine C_le _ (Le.absPerm (As:=[boxA b 140 (PS.c ts ⟨0,0,0⟩),glbA m]) (As':=[psA m b ts ⟨0,0,0⟩]) (pickA_perm (is:=[0,2]) rfl) (by simp [blocks,psA,boxA,glbA]) (fun G w h A hA=>?_)) ?_
  ·simp only [List.mem_singleton] at hA
   subst hA
   exact ⟨h _ (by simp),h (glbA m) (by simp)⟩
  generalize hFF:parF ts (ts.length+1) ⟨0,0,0⟩ []=F at *
  repeat (first|refine sc rfl ?_|refine so rfl ?_)
  refine O_makeBound rfl rfl rfl rfl ?_
  refine O_le _ (Le.addVec 53 5 (fun i=>Dcl.c (([]:List Dcl).getD i default))) ?_
  iterate 7 (first|refine sc rfl ?_|refine so rfl ?_)
  refine C_joinE (α:=PS×List Dcl×Value) (fun q=>⟨[(3,.bp 3 0),(6,PT b 0),(8,.v q.2.2)],[.abs (psA m b ts q.1),.abs (outA q.2.2 q.2.1),.box 3 62 [I64 0,I64 0]]⟩) (fun q=>F=(q.2.1,q.1)) ?_ ?_
  ·repeat refine sc rfl ?_
   refine C_loop (fun q:PS×List Dcl×Value=>⟨[(3,.bp 3 0),(6,PT b 0),(7,.p (bndRP 56 [PT b 0])),(8,.v q.2.2)],[.abs (psA m b ts q.1),.abs (outA q.2.2 q.2.1),.box 3 62 [I64 0,I64 0]]⟩)
    (fun q=>q.1.i<ts.length∧q.2.1.length≤16∧∃ n,(q.1.err=0→ts.length-q.1.i<n)∧parF ts n q.1 q.2.1=F) (fun q=>if q.1.err=0 then ts.length-q.1.i+1 else 0) (⟨0,0,0⟩,[],.slice none 0 0) ⟨hpos,Nat.zero_le _,ts.length+1,fun _=>by simp only [];omega,hFF⟩ (Le.pick [1,0,1] ⟨rfl,rfl,rfl,rfl,trivial⟩ rfl) ?_
   rintro ⟨p,out,h⟩ ⟨g1,g2,n,g6,g7⟩
   simp only [] at g1 g2 g6 g7
   repeat (first|refine sc rfl ?_|refine so rfl ?_)
   refine O_cA [0] (well_A m b ts p) ?_
   rintro r cs' ⟨rfl,rfl⟩
   repeat refine so rfl ?_
   cases hw:p.err == 0 with
   | false =>
    have hw':p.err≠0:=by simpa using hw
    have hF:F=(out,p):=by
     rw [← g7]
     cases n with
     | zero=>rfl
     | succ n=>simp only [parF];rw [if_neg (fun h=>hw' h.1)]
    repeat refine so rfl ?_
    refine C_false rfl rfl ?_
    repeat refine sc rfl ?_
    exact ⟨(p,out,h),hF,Le.pick [0,0,0] ⟨rfl,rfl,rfl,trivial⟩ rfl⟩
   | true =>
   have hw':p.err=0:=by simpa using hw
   obtain ⟨n,rfl⟩:∃ n',n=n'+1:=⟨n-1,by have:=g6 hw';omega⟩
   have g6':=g6 hw'
   simp only [parF] at g7
   repeat refine so rfl ?_
   refine O_cA [0] (now_A m b ts hT p g1) ?_
   rintro r cs' ⟨rfl,rfl⟩
   repeat refine sc rfl ?_
   refine O_Xd (X_field Tryz.underlying143 rfl rfl rfl rfl rfl rfl rfl) ?_
   repeat refine so rfl ?_
   refine C_if rfl (fun c1=>?_) (fun c1=>?_)<;>simp only [pL] at c1
   rotate_left
   ·rw [if_neg (fun h=>h.2 c1)] at g7
    repeat refine sc rfl ?_
    exact ⟨(p,out,h),g7.symm,Le.pick [0,0,0] ⟨rfl,rfl,rfl,trivial⟩ rfl⟩
   rw [if_pos ⟨hw',c1⟩] at g7
   repeat (first|refine sc rfl ?_|refine so rfl ?_)
   refine O_Xd (X_lenV (d:=some 32) 1 rfl rfl rfl rfl rfl) ?_
   repeat refine so rfl ?_
   refine C_if rfl (fun c2=>?_) (fun c2=>?_)<;>simp only [pL] at c2
   ·rw [if_pos (by omega)] at g7
    repeat (first|refine sc rfl ?_|refine so rfl ?_)
    refine O_cA [0] (fail_A m b ts hT p g1 3) ?_
    rintro r cs' ⟨rfl,rfl⟩
    repeat (first|refine sc rfl ?_|refine so rfl ?_)
    exact ⟨(failF ts 3 p,out,h),g7.symm,Le.pick [0,0,0] ⟨rfl,rfl,rfl,trivial⟩ rfl⟩
   rw [if_neg (by omega)] at g7
   have hdl:=decl_lt hT g1
   have hda:=decl_adv (ts:=ts) p
   repeat (first|refine sc rfl ?_|refine so rfl ?_)
   refine O_callBound [0] (avs:=[]) (decl_A m b ts hT p g1) rfl rfl rfl rfl rfl rfl ?_
   rintro r cs' ⟨rfl,rfl⟩
   repeat refine sb rfl ?_
   refine O_le _ (Le.freeze 39 rfl rfl) ?_
   refine O_appendV 1 (m2:=1) (m3:=out.length+1) (row3:=fun i=>Dcl.c ((out++[(declF ts p).1]).getD i default)) rfl rfl rfl rfl rfl rfl (fun i hi=>?_) rfl (by show (out.length+1)*80≤140737488355328;omega) (by show out.length+1≤maxLen;simp only [maxLen];omega) rfl (fun i hi=>?_) (fun v' hv'=>?_)
   ·show (chunkRow 5 (Dcl.c ((declF ts p).1)) i).length=5
    have h0:i=0:=by have:i<1:=hi;omega
    subst h0;rfl
   ·unfold appRow
    by_cases hik:i<out.length
    ·rw [if_pos hik]
     show Dcl.c (out.getD i default)=_
     rw [List.getD_eq_getElem?_getD,List.getD_eq_getElem?_getD,List.getElem?_append_left hik]
    ·rw [if_neg hik]
     obtain rfl:i=out.length:=by omega
     rw [Nat.sub_self,List.getD_eq_getElem?_getD,List.getElem?_append_right (Nat.le_refl _),Nat.sub_self];rfl
   obtain ⟨g9,cc9,rfl⟩:=hv'.resolve_left (fun h=>by omega)
   repeat refine so rfl ?_
   refine ⟨((declF ts p).2,out++[(declF ts p).1],HD g9 (out.length+1) cc9),⟨hdl,by simp only [List.length_append,List.length_singleton];omega,n,fun h=>by simp only [] at h ⊢;have:=hda h;omega,g7⟩,?_,?_⟩
   ·simp only [if_pos hw']
    split
    ·rename_i h;have:=hda h;omega
    ·omega
   ·have e:outA (HD g9 (out.length+1) cc9) (out++[(declF ts p).1])=vecA (HD g9 (out.length+1) cc9) 53 5 (out.length+1) (fun i=>Dcl.c ((out++[(declF ts p).1]).getD i default)):=by rw [outA,List.length_append];rfl
    simp only []
    rw [e]
    exact Le.pick [1,0,0] ⟨rfl,rfl,rfl,rfl,trivial⟩ rfl
  ·rintro ⟨p,out,h⟩ st9 ⟨hF⟩ hs
   simp only [] at hs
   refine C_le _ hs ?_
   have hP2:(parseF s).1=out∧(parseF s).2.1=p.err∧(parseF s).2.2=p.fat:=by rw [hP];exact ⟨rfl,rfl,rfl⟩
   repeat (first|refine sc rfl ?_|refine so rfl ?_)
   refine O_cA [0] (well_A m b ts p) ?_
   rintro r cs' ⟨rfl,rfl⟩
   repeat refine so rfl ?_
   refine C_if rfl (fun c1=>?_) (fun c1=>?_)<;>simp only [pL] at c1
   ·repeat refine sc rfl ?_
    refine C_le _ (Le.absPerm (As:=[psA m b ts p]) (As':=[boxA b 140 (PS.c ts p),glbA m]) (pickA_perm (is:=[0]) rfl) (by simp [blocks,psA,boxA,glbA]) (fun G w h A hA=>?_)) ?_
    ·have:=h (psA m b ts p) (by simp)
     simp only [List.mem_cons,List.not_mem_nil,or_false] at hA
     rcases hA with rfl|rfl
     ·exact this.1
     ·exact this.2
    refine C_drawU 20 5 rfl (by kernel_rfl) (by kernel_rfl) (by kernel_rfl) ?_
    repeat refine sd rfl ?_
    refine D_X (.agg [I64 p.err,I64 p.fat]) (X_loadP 0 (reads_box 2) rfl rfl rfl rfl rfl rfl) ?_
    repeat refine sd rfl ?_
    repeat (first|refine sc rfl ?_|refine so rfl ?_)
    exact ⟨_,[glbA m],_,rfl,pickA_perm (is:=[2]) (As:=[_]) rfl,rfl,.inl ⟨by rw [hP2.2.1];exact c1,by rw [hP2.2.1,hP2.2.2];rfl⟩,rfl⟩
   ·refine C_le _ (Le.frVec 1 (fun i=>Dcl.c (out.getD i default)) rfl (fun i hi=>rfl)) ?_
    refine C_le _ (Le.slotA 0 8 rfl rfl) ?_
    refine C_le _ (Le.absPerm (As:=[psA m b ts p]) (As':=[boxA b 140 (PS.c ts p),glbA m]) (pickA_perm (is:=[1]) rfl) (by simp [blocks,psA,boxA,glbA]) (fun G w h A hA=>?_)) ?_
    ·have:=h (psA m b ts p) (by simp)
     simp only [List.mem_cons,List.not_mem_nil,or_false] at hA
     rcases hA with rfl|rfl
     ·exact this.1
     ·exact this.2
    repeat (first|refine sc rfl ?_|refine so rfl ?_)
    exact ⟨_,[glbA m],_,rfl,pickA_perm (is:=[2]) (As:=[_]) rfl,rfl,.inr ⟨by rw [hP2.2.1];exact c1,by rw [hP2.1];rfl⟩,rfl⟩
end Go.Proofs

namespace Go.Proofs
open Go.Sy Go.Lib

theorem mem_getDf {l:List Fld} {i:Nat} (h:i<l.length):l.getD i default∈l:=by
 rw [getD_at h];exact List.getElem_mem h
theorem getD_mem {α:Type} [Inhabited α] {l:List α} {x:α} (h:x∈l):∃ i,i<l.length∧l.getD i default=x:=by
 obtain ⟨i,hi,rfl⟩:=List.mem_iff_getElem.1 h
 exact ⟨i,hi,getD_at hi⟩
theorem nodup_tag {F:List Fld} (h:(F.map (·.tag)).Nodup) {i j:Nat} (hi:i<F.length) (hj:j<F.length) (e:(F.getD i default).tag=(F.getD j default).tag):i=j:=by
 rw [getD_at hi,getD_at hj] at e
 have:=(List.getElem_inj (xs:=F.map (·.tag)) (i:=i) (j:=j) (h₀:=by simpa using hi) (h₁:=by simpa using hj) h).1 (by simpa using e)
 exact this

theorem one_tag {F:List Fld} (h:(F.map (·.tag)).Nodup) {x y:Fld} (hx:x∈F) (hy:y∈F) (e:x.tag=y.tag):x=y:=by
 obtain ⟨i,hi,rfl⟩:=getD_mem hx
 obtain ⟨j,hj,rfl⟩:=getD_mem hy
 rw [nodup_tag h hi hj e]

theorem SrtOf.facts {F R:List Fld} (h:SrtOf F R) (hn:(F.map (·.tag)).Nodup):(∀ x,x∈R↔x∈F)∧∀ i j,i<j→j<R.length→(R.getD i default).tag<(R.getD j default).tag:=by
 obtain ⟨h1,⟨p,r,h2,_⟩,h3⟩:=h
 refine ⟨fun x=>⟨fun hx=>?_,fun hx=>?_⟩,fun i j hij hj=>?_⟩
 ·obtain ⟨i,hi,rfl⟩:=getD_mem hx
  obtain ⟨q1,_,_,_,q5⟩:=h2 i (Nat.zero_le _) (by omega)
  simp only [] at q5
  rw [q5];exact mem_getDf q1.2
 ·obtain ⟨i,hi,rfl⟩:=getD_mem hx
  obtain ⟨_,q2,q3,_,_⟩:=h2 i (Nat.zero_le _) hi
  obtain ⟨_,_,_,_,s5⟩:=h2 (r i) (Nat.zero_le _) q2.2
  simp only [] at s5
  rw [q3] at s5
  rw [← s5];exact mem_getDf (by omega)
 ·have hle:=h3 i j (Nat.zero_le _) (by omega) (by omega)
  simp only [] at hle
  obtain ⟨a1,_,_,a4,a5⟩:=h2 i (Nat.zero_le _) (by omega)
  obtain ⟨b1,_,_,b4,b5⟩:=h2 j (Nat.zero_le _) (by omega)
  simp only [] at a5 b5
  rcases Int.lt_or_eq_of_le hle with hlt|he
  ·exact hlt
  ·rw [a5,b5] at he
   have:=nodup_tag hn a1.2 b1.2 he
   have:i=j:=by rw [← a4,← b4,this]
   omega

theorem srt_eq:∀ {A B:List Fld},A.Pairwise (fun a b=>a.tag<b.tag)→B.Pairwise (fun a b=>a.tag<b.tag)→(∀ x,x∈A↔x∈B)→A=B
 | [],[],_,_,_=>rfl
 | [],b::B,_,_,h=>by have:=(h b).2 (by simp);cases this
 | a::A,[],_,_,h=>by have:=(h a).1 (by simp);cases this
 | a::A,b::B,hA,hB,h=>by
  obtain ⟨a1,a2⟩:=List.pairwise_cons.1 hA
  obtain ⟨b1,b2⟩:=List.pairwise_cons.1 hB
  have e:a=b:=by
   rcases List.mem_cons.1 ((h a).1 (by simp)) with h1|h1
   ·exact h1
   ·rcases List.mem_cons.1 ((h b).2 (by simp)) with h2|h2
    ·exact h2.symm
    ·have:=b1 a h1
     have:=a1 b h2
     omega
  subst e
  have:A=B:=srt_eq a2 b2 (fun x=>by
   constructor
   ·intro hx
    rcases List.mem_cons.1 ((h x).1 (by simp [hx])) with h1|h1
    ·subst h1;have:=a1 x hx;omega
    ·exact h1
   ·intro hx
    rcases List.mem_cons.1 ((h x).2 (by simp [hx])) with h1|h1
    ·subst h1;have:=b1 x hx;omega
    ·exact h1)
  rw [this]

theorem SrtOf.pw {F R:List Fld} (h:SrtOf F R) (hn:(F.map (·.tag)).Nodup):R.Pairwise (fun a b=>a.tag<b.tag):=by
 rw [List.pairwise_iff_getElem]
 intro i j hi hj hij
 have:=(h.facts hn).2 i j hij hj
 rwa [getD_at hi,getD_at hj] at this
theorem SrtOf.uniq {F R R':List Fld} (h:SrtOf F R) (h':SrtOf F R') (hn:(F.map (·.tag)).Nodup):R=R' :=
 srt_eq (h.pw hn) (h'.pw hn) (fun x=>by rw [(h.facts hn).1,(h'.facts hn).1])

noncomputable def rowsU (l:List Dcl) (nm:List UInt8):List Fld:=rowsL l (Classical.epsilon (RowsOK l)) nm
theorem rowsU_eq {l:List Dcl} (hW:WellL l) {Rs:List (List Fld)} (hR:RowsOK l Rs) (nm:List UInt8):rowsL l Rs nm=rowsU l nm:=by
 have hR':RowsOK l (Classical.epsilon (RowsOK l)):=Classical.epsilon_spec ⟨Rs,hR⟩
 unfold rowsU rowsL
 cases hf:fndL nm l with
 | none=>rfl
 | some j =>
  have hj:=fndL_lt hf
  exact (hR.2 j hj).uniq (hR'.2 j hj) (List.nodup_append.1 (hW j hj).tags).1
end Go.Proofs

namespace Go.Proofs
open Go.Sy Go.Lib

def exA {α:Type} (I:α→Prop) (A:α→Abs) (bs:List Nat) (hbs:∀ q,(A q).bs=bs):Abs where
 bs:=bs
 ok:=fun G w=>∃ q,I q∧(A q).ok G w
 keep:=fun hG hb ⟨q,h1,h2⟩=>⟨q,h1,(A q).keep hG (by rw [hbs];exact hb) h2⟩

theorem FnA_ex {α:Type} {I:α→Prop} {A:α→Abs} {bs:List Nat} {hbs:∀ q,(A q).bs=bs} {P:Program} {f:FuncId} {args:List AV} {φ:AV→Prop}
  (h:∀ q,I q→FnA P f args [A q] (fun r cs'=>φ r∧∃ q',I q'∧cs'=[A q'])) (hc:Callable P f):FnA P f args [exA I A bs hbs] (fun r cs'=>φ r∧cs'=[exA I A bs hbs]):=by
 refine ⟨hc,fun G w cargs him hr hok=>?_⟩
 have hx:(exA I A bs hbs).ok G w:=hok.1 _ (List.mem_singleton.2 rfl)
 obtain ⟨q,hq,hqo⟩:=hx
 have e1:∀ q,blocks [A q]=bs:=fun q=>by simp [blocks,hbs]
 have e2:blocks [exA I A bs hbs]=bs:=by simp [blocks,exA]
 have hok':AbsOK G w [A q]:=⟨fun B hB=>by simp only [List.mem_singleton] at hB;subst hB;exact hqo,by rw [e1,← e2];exact hok.2.1,by rw [e1,← e2];exact hok.2.2⟩
 refine ((h q hq).2 G w cargs him hr hok').mono ?_
 rintro en w' ⟨r,cr,cs',G',⟨hφ,q',hq',rfl⟩,g1,g2,g3,g4,g5,g6,g7,g8⟩
 rw [e1] at g4 g7 g8
 refine ⟨r,cr,_,G',⟨hφ,rfl⟩,g1,g2,g3,by rw [e2];exact g4,g5,⟨fun B hB=>by simp only [List.mem_singleton] at hB;subst hB;exact ⟨q',hq',g6.1 _ (by simp)⟩,by rw [e2,← e1 q'];exact g6.2.1,by rw [e2,← e1 q'];exact g6.2.2⟩,?_,?_⟩
 ·rw [e2];intro b hb;rw [e1] at g7;exact g7 b hb
 ·rw [e2];exact g8

def dscS (b:Nat) (l:List Dcl):Abs:=exA (Rdy l) (dsc b l) [b] (fun q=>by cases q<;>rfl)

theorem DKind_S (b:Nat) (l:List Dcl) (hP:Prep l) (nm:List UInt8):FnA Tryz.prog 22 [PT b 0,.s nm] [dscS b l] (fun r cs'=>r=I64 (kindL l nm)∧cs'=[dscS b l]) :=
 FnA_ex (φ:=fun r=>r=I64 (kindL l nm)) (fun q hq=>(DKind_A b l hP q hq nm).mono (fun r cs' ⟨h1,Rs,h2,h3⟩=>⟨h1,some Rs,fun _ h=>by cases h;exact h2,h3⟩)) (DKind_A b l hP none (fun _ h=>by cases h) nm).1
theorem DRows_S (b:Nat) (l:List Dcl) (hP:Prep l) (hW:WellL l) (nm:List UInt8):FnA Tryz.prog 29 [PT b 0,.s nm] [dscS b l] (fun r cs'=>r=SL 5 Fld.c (rowsU l nm)∧cs'=[dscS b l]) :=
 FnA_ex (φ:=fun r=>r=SL 5 Fld.c (rowsU l nm)) (fun q hq=>(DRows_A b l hP q hq nm).mono (fun r cs' ⟨Rs,h1,h2,h3⟩=>⟨by rw [h2,rowsU_eq hW h1],some Rs,fun _ h=>by cases h;exact h1,h3⟩)) (DRows_A b l hP none (fun _ h=>by cases h) nm).1

theorem decls_A (b:Nat) (l:List Dcl) (hl:FewL l) (q:Option (List (List Fld))):FnA Tryz.prog 27 [PT b 0] [dsc b l q] (fun r cs'=>r=SL 5 Dcl.c l∧cs'=[dsc b l q]):=by
 refine fnA Tryz.func27 fun X=>?_
 have hd:∃ o1 o2 o3 t m0,dsc b l q=dscA b l o1 o2 o3 t m0:=by cases q<;>exact ⟨_,_,_,_,_,rfl⟩
 obtain ⟨o1,o2,o3,t,m0,hd⟩:=hd
 rw [hd]
 repeat (first|refine sc rfl ?_|refine so rfl ?_)
 refine O_Xd (X_ptrnil Tryz.underlying32 rfl rfl rfl) ?_
 repeat refine so rfl ?_
 refine C_false rfl rfl ?_
 repeat (first|refine sc rfl ?_|refine so rfl ?_)
 refine O_loadP 0 (A:=dscA b l o1 o2 o3 t m0) (reads_box 0) rfl rfl rfl rfl rfl rfl ?_
 repeat refine sc rfl ?_
 refine O_cP (decls_c l hl) fun r hr=>?_
 subst hr
 repeat (first|refine sc rfl ?_|refine so rfl ?_)
 exact ⟨_,[_],_,rfl,.refl _,rfl,rfl,rfl⟩
theorem decls_S (b:Nat) (l:List Dcl) (hl:FewL l):FnA Tryz.prog 27 [PT b 0] [dscS b l] (fun r cs'=>r=SL 5 Dcl.c l∧cs'=[dscS b l]) :=
 FnA_ex (φ:=fun r=>r=SL 5 Dcl.c l) (fun q hq=>(decls_A b l hl q).mono (fun r cs' ⟨h1,h2⟩=>⟨h1,q,hq,h2⟩)) (decls_A b l hl none).1

theorem Read_A (m:Int) (s:List UInt8) (l:List Dcl) (hl:parseF s=(l,0,0)∨(parseF s).1=l∧(parseF s).2.1=0) (hfew:FewL l) (hok:WellL l∧FinL l) :
  FnA Tryz.prog 18 [.s s] [glbA m] (fun r cs'=>∃ b,r=.tup [PT b 0,.agg [I64 0,I64 0]]∧cs'=[dscS b l,glbA m]):=by
 have hl':(parseF s).1=l∧(parseF s).2.1=0:=by
  rcases hl with h|h
  ·rw [h];exact ⟨rfl,rfl⟩
  ·exact h
 refine fnA Tryz.func18 fun X=>?_
 repeat (first|refine sc rfl ?_|refine so rfl ?_)
 refine O_cA [1] (Parse_A m s) ?_
 rintro r cs' ⟨h0|h0,rfl⟩
 ·exact absurd hl'.2 h0.1
 obtain ⟨_,rfl⟩:=h0
 rw [hl'.1]
 repeat (first|refine sc rfl ?_|refine so rfl ?_)
 refine C_false rfl rfl ?_
 repeat (first|refine sc rfl ?_|refine so rfl ?_)
 refine O_cA [] (Of_A l hfew) ?_
 rintro r cs' (⟨f,rfl,hn,rfl⟩|⟨b,rfl,hy,rfl⟩)
 ·exact absurd hok hn
 refine O_le _ (Le.absPerm (As:=[dsc b l none]) (As':=[dscS b l]) (pickA_perm (is:=[0]) rfl) (.refl _) (fun G w h A hA=>?_)) ?_
 ·simp only [List.mem_singleton] at hA
  subst hA
  exact ⟨none,(fun _ h=>by cases h),h _ (by simp)⟩
 repeat (first|refine sc rfl ?_|refine so rfl ?_)
 exact ⟨_,[_,_],_,rfl,pickA_perm (is:=[1,2]) (As:=[_,_]) rfl,rfl,b,rfl,rfl⟩
end Go.Proofs

namespace Go.Proofs
open Go.Sy Go.Lib

def EndT (ts:List Tok):Prop:=∀ t∈ts,t.kind=4→t.text=[]

section
variable {ts:List Tok} (hE:EndT ts)

end
end Go.Proofs

namespace Go.Proofs
open Go.Sy Go.Lib

structure Val where
 kind:Int
 num:Int
 text:List UInt8
 tags:List Int
 items:List Val

instance:Inhabited Val:=⟨⟨0,0,[],[],[]⟩⟩
mutual
def Val.cells:Val→List AV
 | ⟨a0,a1,a2,a3,a4⟩=>[I64 a0,I64 a1,.s a2,SL 1 INTc a3,.sl a4.length 5 (Val.rows a4)]
def Val.rows:List Val→Nat→List AV
 | [],_=>[]
 | x::_,0=>Val.cells x
 | _::xs,i+1=>Val.rows xs i
end
def Val.c (x:Val):List AV:=[I64 x.kind,I64 x.num,.s x.text,SL 1 INTc x.tags,.sl x.items.length 5 (Val.rows x.items)]
theorem Val.rows_eq:∀ (l:List Val) (i:Nat),i<l.length→Val.rows l i=Val.c (l.getD i default)
 | [],i,h=>absurd h (Nat.not_lt_zero _)
 | ⟨a0,a1,a2,a3,a4⟩::xs,0,_=>by simp only [Val.rows,Val.cells,Val.c,List.getD_cons_zero]
 | x::xs,i+1,h=>by simp only [Val.rows,List.getD_cons_succ];exact Val.rows_eq xs i (by simpa using h)
theorem items_lt {v:Val} {i:Nat} (h:i<v.items.length):SizeOf.sizeOf (v.items.getD i default)<SizeOf.sizeOf v:=by
 have h1:v.items.getD i default∈v.items:=by
  rw [List.getD_eq_getElem?_getD,List.getElem?_eq_getElem h];exact List.getElem_mem h
 have h2:=List.sizeOf_lt_of_mem h1
 have h3:SizeOf.sizeOf v.items<SizeOf.sizeOf v:=by cases v;simp;omega
 omega
end Go.Proofs

namespace Go.Proofs
open Go.Sy Go.Lib

inductive FewV:Val→Prop
 | mk {v:Val}:v.items.length≤60→v.tags.length≤300→v.text.length≤2000→(∀ i,i<v.items.length→FewV (v.items.getD i default))→FewV v

mutual
def sizeF:Val→Int
 | ⟨_,_,t,_,l⟩=>sizesF l (IntKind.i64.wrap (8+(t.length:Nat)))
def sizesF:List Val→Int→Int
 | [],n=>n
 | x::xs,n=>sizesF xs (IntKind.i64.wrap (n+sizeF x))
end
theorem sizesF_snoc (x:Val):∀ (l:List Val) (n:Int),sizesF (l++[x]) n=IntKind.i64.wrap (sizesF l n+sizeF x)
 | [],n=>rfl
 | y::l,n=>by simp only [List.cons_append,sizesF];exact sizesF_snoc x l _
theorem sizeF_eq (v:Val):sizeF v=sizesF v.items (IntKind.i64.wrap (8+(v.text.length:Nat))):=by cases v;rfl

theorem Size_c:∀ (n:Nat) (v:Val),SizeOf.sizeOf v≤n→FewV v→FnP Tryz.prog 12 [.agg (Val.c v)] (fun r=>r=I64 (sizeF v))
 | 0,v,hn,_=>by cases v;simp at hn
 | n+1,v,hn,⟨h1,h2,h3,h4⟩=>by
  refine fnP Tryz.func12 fun X=>?_
  have hrec:∀ i,i<v.items.length→FnP Tryz.prog 12 [.agg (Val.c (v.items.getD i default))] (fun r=>r=I64 (sizeF (v.items.getD i default))):=fun i hi=>Size_c n _ (by have:=items_lt hi;omega) (h4 i hi)
  repeat (first|refine sc rfl ?_|refine so rfl ?_)
  refine C_loop (fun i:Nat=>⟨[(1,.bp 1 0),(3,I64 (sizesF (v.items.take i) (IntKind.i64.wrap (8+(v.text.length:Nat))))),(4,I64 (i:Nat))],[.box 1 26 (Val.c v)]⟩) (fun i=>i≤v.items.length) (fun i=>v.items.length-i) 0 (Nat.zero_le _) (Le.sub [1] ⟨rfl,rfl,rfl,trivial⟩ rfl) ?_
  intro i hi
  repeat (first|refine sc rfl ?_|refine so rfl ?_)
  refine C_if rfl (fun m1=>?_) (fun m1=>?_)<;>simp only [pL] at m1
  ·have hil:i<v.items.length:=by omega
   repeat (first|refine O_le _ (Le.one 18 (SL 5 Val.c v.items) rfl (.row (Val.rows_eq _))) ?_|refine sc rfl ?_|refine so rfl ?_|refine sb rfl ?_)
   refine ⟨by omega,?_⟩
   rw [Int.toNat_natCast]
   repeat refine so rfl ?_
   refine O_cP (hrec i hil) fun r hr=>?_
   subst hr
   repeat (first|refine sc rfl ?_|refine so rfl ?_)
   rw [w64 (x:=(i:Int)+1) (by omega) (by omega)]
   refine ⟨i+1,hil,by omega,?_⟩
   rw [List.take_succ_eq_append_getElem hil,← getD_at hil,sizesF_snoc]
   exact Le.sub [1] ⟨rfl,rfl,rfl,trivial⟩ rfl
  ·obtain rfl:i=v.items.length:=by omega
   rw [List.take_length]
   repeat (first|refine sc rfl ?_|refine so rfl ?_)
   exact ⟨_,rfl,rfl,by rw [sizeF_eq]⟩
end Go.Proofs

namespace Go.Proofs
open Go.Sy Go.Lib

mutual
def Val.deep:Val→Nat
 | ⟨_,_,_,_,l⟩=>1+Val.deeps l
def Val.deeps:List Val→Nat
 | []=>0
 | x::xs=>max (Val.deep x) (Val.deeps xs)
end
theorem deep_eq (v:Val):v.deep=1+Val.deeps v.items:=by cases v;rfl
theorem deeps_le {l:List Val} {d:Nat} (h:∀ i,i<l.length→(l.getD i default).deep≤d):Val.deeps l≤d:=by
 induction l with
 | nil=>exact Nat.zero_le _
 | cons x xs ih =>
  simp only [Val.deeps]
  have h0:=h 0 (by simp)
  have h1:=ih (fun i hi=>by have:=h (i+1) (by simpa using hi);simpa using this)
  simp at h0
  omega
mutual
def greatF:Val→Nat→Bool
 | ⟨_,_,t,g,l⟩,d=>if 40<d∨60<l.length∨300<g.length∨2000<t.length then true else greatsF l (d+1+l.length / 4) 0
def greatsF:List Val→Nat→Int→Bool
 | [],_,n=>decide (20000<n)
 | x::xs,d,n=>greatF x d||greatsF xs d (min (IntKind.i64.wrap (n+sizeF x)) 100000)
end
theorem greatF_eq (v:Val) (d:Nat):greatF v d=if 40<d∨60<v.items.length∨300<v.tags.length∨2000<v.text.length then true else greatsF v.items (d+1+v.items.length / 4) 0:=by cases v;rfl
theorem greatsF_all:∀ (l:List Val) (d:Nat) (n:Int),greatsF l d n=false→∀ i,i<l.length→greatF (l.getD i default) d=false
 | [],d,n,_,i,hi=>absurd hi (Nat.not_lt_zero _)
 | x::xs,d,n,h,0,_=>by
  simp only [greatsF,Bool.or_eq_false_iff] at h
  simpa using h.1
 | x::xs,d,n,h,i+1,hi=>by
  simp only [greatsF,Bool.or_eq_false_iff] at h
  simpa using greatsF_all xs d _ h.2 i (by simpa using hi)
theorem greatF_few:∀ (n:Nat) (v:Val) (d:Nat),SizeOf.sizeOf v≤n→greatF v d=false→FewV v∧v.deep+d≤41
 | 0,v,d,hn,_=>by cases v;simp at hn
 | n+1,v,d,hn,h=>by
  rw [greatF_eq] at h
  split at h
  ·cases h
  ·rename_i hc
   have hrec:∀ i,i<v.items.length→FewV (v.items.getD i default)∧(v.items.getD i default).deep+(d+1+v.items.length / 4)≤41:=fun i hi=>greatF_few n _ _ (by have:=items_lt hi;omega) (greatsF_all _ _ _ h i hi)
   refine ⟨.mk (by omega) (by omega) (by omega) (fun i hi=>(hrec i hi).1),?_⟩
   have hd2:=deeps_le (l:=v.items) (d:=40-d) (fun j hj=>by have:=(hrec j hj).2;omega)
   rw [deep_eq]
   omega

theorem greatsF_cons (x:Val) (xs:List Val) (d:Nat) (n:Int):greatsF (x::xs) d n=(greatF x d||greatsF xs d (min (IntKind.i64.wrap (n+sizeF x)) 100000)):=rfl
theorem drop_at {l:List Val} {i:Nat} (h:i<l.length):l.drop i=l.getD i default::l.drop (i+1):=by
 rw [List.drop_eq_getElem_cons h,getD_at h]
theorem Great15_c:∀ (n:Nat) (v:Val),SizeOf.sizeOf v≤n→∀ d:Nat,d≤1000→FnP Tryz.prog 7 [.agg (Val.c v),I64 (d:Nat)] (fun r=>r=B (greatF v d))
 | 0,v,hn,_,_=>by cases v;simp at hn
 | n+1,v,hn,d,hd=>by
  refine fnP Tryz.func7 fun X=>?_
  have hrec:∀ i,i<v.items.length→∀ d:Nat,d≤1000→FnP Tryz.prog 7 [.agg (Val.c (v.items.getD i default)),I64 (d:Nat)] (fun r=>r=B (greatF (v.items.getD i default) d)):=fun i hi=>Great15_c n _ (by have:=items_lt hi;omega)
  rw [greatF_eq]
  repeat (first|refine sc rfl ?_|refine so rfl ?_)
  refine O_case 9 rfl (fun c1=>?_) (fun c1=>?_)<;>simp only [pL] at c1
  ·repeat refine so rfl ?_
   refine C_true rfl rfl ?_
   repeat (first|refine sc rfl ?_|refine so rfl ?_)
   exact ⟨_,rfl,rfl,by rw [if_pos (by omega)]⟩
  repeat refine so rfl ?_
  refine O_case 15 rfl (fun c2=>?_) (fun c2=>?_)<;>simp only [pL] at c2
  ·repeat refine so rfl ?_
   refine C_true rfl rfl ?_
   repeat (first|refine sc rfl ?_|refine so rfl ?_)
   exact ⟨_,rfl,rfl,by rw [if_pos (by omega)]⟩
  repeat refine so rfl ?_
  refine O_case 21 rfl (fun c3=>?_) (fun c3=>?_)<;>simp only [pL] at c3
  ·repeat refine so rfl ?_
   refine C_true rfl rfl ?_
   repeat (first|refine sc rfl ?_|refine so rfl ?_)
   exact ⟨_,rfl,rfl,by rw [if_pos (by omega)]⟩
  repeat refine so rfl ?_
  refine C_if rfl (fun c4=>?_) (fun c4=>?_)<;>simp only [pL] at c4
  ·repeat (first|refine sc rfl ?_|refine so rfl ?_)
   exact ⟨_,rfl,rfl,by rw [if_pos (by omega)]⟩
  rw [if_neg (by omega)]
  generalize hg:greatsF v.items (d+1+v.items.length / 4) 0=g
  repeat (first|refine sc rfl ?_|refine so rfl ?_)
  refine C_loop (fun q:Nat×Int=>⟨[(1,I64 (d:Nat)),(2,.bp 2 0),(5,I64 q.2),(6,I64 (q.1:Nat))],[.box 2 26 (Val.c v)]⟩) (fun q=>q.1≤v.items.length∧greatsF (v.items.drop q.1) (d+1+v.items.length / 4) q.2=g∧∀ j,j<q.1→FewV (v.items.getD j default)) (fun q=>v.items.length-q.1) (0,0) ⟨Nat.zero_le _,hg,fun j hj=>absurd hj (Nat.not_lt_zero _)⟩ (Le.sub [2] ⟨rfl,rfl,rfl,rfl,trivial⟩ rfl) ?_
  rintro ⟨i,x⟩ ⟨hi,hgr,hall⟩
  simp only [] at hi hgr hall
  repeat (first|refine sc rfl ?_|refine so rfl ?_)
  refine C_if rfl (fun m1=>?_) (fun m1=>?_)<;>simp only [pL] at m1
  ·have hil:i<v.items.length:=by omega
   rw [drop_at hil,greatsF_cons] at hgr
   repeat refine sc rfl ?_
   refine C_drawD rfl (by kernel_rfl) ?_
   refine sd rfl ?_
   refine sdw (SL 5 Val.c v.items) rfl rfl rfl (.row (Val.rows_eq _)) ?_
   refine sd rfl ?_
   refine sd rfl ⟨by omega,?_⟩
   rw [Int.toNat_natCast]
   refine sd rfl ?_
   refine sd rfl ?_
   refine sd rfl ?_
   refine sd rfl ?_
   refine sd rfl ?_
   refine sd rfl ?_
   refine D_X (I64 (IntKind.i64.wrap (((v.items.length:Nat):Int).tdiv 4))) (X_stillX rfl rfl rfl (by decide)) ?_
   refine sd rfl ?_
   rw [quo64 (by omega) (by omega) (by omega),w64 (x:=(d:Int)+1) (by omega) (by omega),w64 (by omega) (by omega),show (d:Int)+1+(v.items.length:Int) / 4=((d+1+v.items.length / 4:Nat):Int) by omega]
   refine D_call (hrec i hil _ (by omega)) rfl rfl rfl rfl ?_
   refine sd rfl ?_
   repeat refine sc rfl ?_
   cases hb:greatF (v.items.getD i default) (d+1+v.items.length / 4) with
   | true =>
    rw [hb] at hgr
    refine C_true rfl rfl ?_
    repeat (first|refine sc rfl ?_|refine so rfl ?_)
    exact ⟨_,rfl,rfl,by rw [← hgr];rfl⟩
   | false =>
    rw [hb] at hgr
    have hfe:=(greatF_few _ _ _ (Nat.le_refl _) hb).1
    refine C_false rfl rfl ?_
    repeat (first|refine O_le _ (Le.one 49 (SL 5 Val.c v.items) rfl (.row (Val.rows_eq _))) ?_|refine sc rfl ?_|refine so rfl ?_|refine sb rfl ?_)
    refine ⟨by omega,?_⟩
    rw [Int.toNat_natCast]
    repeat refine so rfl ?_
    refine O_cP (Size_c _ _ (Nat.le_refl _) hfe) fun r hr=>?_
    subst hr
    repeat (first|refine sc rfl ?_|refine so rfl ?_)
    rw [w64 (x:=(i:Int)+1) (by omega) (by omega)]
    refine ⟨(i+1,min (IntKind.i64.wrap (x+sizeF (v.items.getD i default))) 100000),⟨hil,hgr,fun j hj=>?_⟩,by simp only [];omega,Le.sub [2] ⟨rfl,rfl,rfl,rfl,trivial⟩ rfl⟩
    by_cases hji:j<i
    ·exact hall j hji
    ·obtain rfl:j=i:=by simp only [] at hj;omega
     exact hfe
  ·obtain rfl:i=v.items.length:=by omega
   rw [List.drop_length] at hgr
   repeat (first|refine sc rfl ?_|refine so rfl ?_)
   exact ⟨_,rfl,rfl,by rw [← hgr];rfl⟩
end Go.Proofs

namespace Go.Proofs
open Go.Sy Go.Lib

theorem Of_B (l:List Dcl) (hl:FewL l):FnA Tryz.prog 19 [SL 5 Dcl.c l] [] (fun r cs'=>(∃ f:Flt,r=.tup [.v (.pointer none),.agg (Flt.c f)]∧f.err≠0∧cs'=[]) ∨
  (∃ b,r=.tup [PT b 0,.agg (Flt.c ⟨0,0⟩)]∧(WellL l∧FinL l)∧cs'=[boxA b 105 [SL 5 Dcl.c l,.v (.int .u32 0),.v (.int .i32 0),.v (.int .u32 0),.v (.pointer none),.v (.map none)]])):=by
 refine fnA Tryz.func19 fun X=>?_
 repeat (first|refine sc rfl ?_|refine so rfl ?_)
 refine O_cP (Check_c l hl.toFew) fun r hr=>?_
 obtain ⟨f,rfl,hf,hf2⟩:=hr
 repeat (first|refine sc rfl ?_|refine so rfl ?_)
 refine C_if rfl (fun m1=>?_) (fun m1=>?_)<;>simp only [pL] at m1
 ·repeat refine sc rfl ?_
  refine C_drawU 20 2 rfl (by kernel_rfl) (by kernel_rfl) (by kernel_rfl) ?_
  repeat refine sd rfl ?_
  repeat (first|refine sc rfl ?_|refine so rfl ?_)
  exact ⟨_,[],_,rfl,.refl _,rfl,.inl ⟨f,rfl,m1,rfl⟩⟩
 ·repeat (first|refine sc rfl ?_|refine so rfl ?_)
  refine O_cP (decls_c l hl) fun r hr=>?_
  subst hr
  iterate 6 refine so rfl ?_
  refine C_absb 2 rfl rfl rfl (fun b=>?_)
  repeat refine sc rfl ?_
  exact ⟨_,[_],_,rfl,.refl _,rfl,.inr ⟨b,rfl,hf.1 m1,rfl⟩⟩

theorem MadeZ_A (l:List Dcl) (hl:FewL l):FnA Tryz.prog 9 [SL 5 Dcl.c l] [] (fun r cs'=>(r=.tup [.v (.pointer none),.v (.slice none 0 0)]∧cs'=[]) ∨
  (∃ b,r=.tup [PT b 0,SL 5 Dcl.c l]∧(WellL l∧FinL l)∧cs'=[dscS b l])):=by
 refine fnA Tryz.func9 fun X=>?_
 repeat (first|refine sc rfl ?_|refine so rfl ?_)
 refine O_cA [] (Of_B l hl) ?_
 rintro r cs' (⟨f,rfl,hn,rfl⟩|⟨b,rfl,hW,rfl⟩)
 ·repeat (first|refine sc rfl ?_|refine so rfl ?_)
  refine C_true rfl (by simpa using hn) ?_
  repeat (first|refine sc rfl ?_|refine so rfl ?_)
  exact ⟨_,[],_,rfl,.refl _,rfl,.inl ⟨rfl,rfl⟩⟩
 ·refine O_le _ (Le.absPerm (As:=[dsc b l none]) (As':=[dscS b l]) (pickA_perm (is:=[0]) rfl) (.refl _) (fun G w h A hA=>?_)) ?_
  ·simp only [List.mem_singleton] at hA
   subst hA
   exact ⟨none,(fun _ h=>by cases h),h _ (by simp)⟩
  repeat (first|refine sc rfl ?_|refine so rfl ?_)
  refine C_false rfl rfl ?_
  repeat (first|refine sc rfl ?_|refine so rfl ?_)
  exact ⟨_,[_],_,rfl,pickA_perm (is:=[1]) (As:=[_]) rfl,rfl,.inr ⟨b,rfl,hW,rfl⟩⟩

def hA:Fld:=⟨1,[97],⟨4,[],[]⟩⟩
def hB:Fld:=⟨2,[98],⟨9,[],[⟨6,[80],[]⟩]⟩⟩
end Go.Proofs

namespace Go.Proofs
open Go.Sy Go.Lib
structure Sgl where
 least:Int
 most:Int

instance:Inhabited Sgl:=⟨⟨0,0⟩⟩
def Sgl.c (x:Sgl):List AV:=[I64 x.least,I64 x.most]
structure Wds where
 right:Bool

instance:Inhabited Wds:=⟨⟨false⟩⟩
def Wds.c (x:Wds):List AV:=[B x.right]
structure Mny where

instance:Inhabited Mny:=⟨⟨⟩⟩
def Mny.c (x:Mny):List AV:=[]
structure Prs where

instance:Inhabited Prs:=⟨⟨⟩⟩
def Prs.c (x:Prs):List AV:=[]
structure Tgd where
 most:Int

instance:Inhabited Tgd:=⟨⟨0⟩⟩
def Tgd.c (x:Tgd):List AV:=[I64 x.most]
end Go.Proofs

namespace Go.Proofs
open Go.Sy Go.Lib

noncomputable def IsNaNu_F (x:Int):Option (Bool) :=
 some (x != x)
theorem IsNaNu_w (x:Int) (r:Bool) (h:IsNaNu_F x=some r):FnP Tryz.prog 180 [.v (.int .u64 x)] (·=B r):=by
 unfold IsNaNu_F at h
 refine fnP Tryz.func180 fun X=>?_
 iterate 2 refine sc rfl ?_
 refine so rfl ?_
 refine so rfl ?_
 iterate 2 refine sc rfl ?_
 iterate 4 refine so rfl ?_
 refine so rfl ?_
 refine sc rfl ?_
 obtain rfl:=osi h
 exact ⟨_,rfl,rfl,rfl⟩
noncomputable def IsNaNi_F (x:Int):Option (Bool) :=
 some (x != x)
theorem IsNaNi_w (x:Int) (r:Bool) (h:IsNaNi_F x=some r):FnP Tryz.prog 181 [I64 x] (·=B r):=by
 unfold IsNaNi_F at h
 refine fnP Tryz.func181 fun X=>?_
 iterate 2 refine sc rfl ?_
 refine so rfl ?_
 refine so rfl ?_
 iterate 2 refine sc rfl ?_
 iterate 4 refine so rfl ?_
 refine so rfl ?_
 refine sc rfl ?_
 obtain rfl:=osi h
 exact ⟨_,rfl,rfl,rfl⟩
noncomputable def CmpU_F (x:Int) (y:Int):Option (Int) :=
 Option.bind (IsNaNu_F x) (fun r1=>Option.bind (IsNaNu_F y) (fun r4=>cond r1 (cond r4 (some 0) (some (-1))) (cond r4 (some 1) (cond (decide (x<y)) (some (-1)) (cond (decide (y<x)) (some 1) (some 0))))))
theorem CmpU_w (x:Int) (y:Int) (r:Int) (h:CmpU_F x y=some r):FnP Tryz.prog 164 [.v (.int .u64 x),.v (.int .u64 y)] (·=I64 r):=by
 unfold CmpU_F at h
 refine fnP Tryz.func164 fun X=>?_
 iterate 2 refine sc rfl ?_
 refine so rfl ?_
 refine so rfl ?_
 iterate 2 refine sc rfl ?_
 refine so rfl ?_
 obtain ⟨r1,hr2,h⟩:=bT h
 refine O_cP (IsNaNu_w _ _ hr2) fun q3 hq3=>?_
 subst hq3
 refine so rfl ?_
 refine so rfl ?_
 iterate 2 refine sc rfl ?_
 refine so rfl ?_
 obtain ⟨r4,hr5,h⟩:=bT h
 refine O_cP (IsNaNu_w _ _ hr5) fun q6 hq6=>?_
 subst hq6
 refine so rfl ?_
 refine so rfl ?_
 iterate 3 refine sc rfl ?_
 refine so rfl ?_
 refine so rfl ?_
 refine C_if rfl (fun hb7=>?_) (fun hb7=>?_)
 ·replace h:=cT hb7 h
  iterate 3 refine sc rfl ?_
  refine so rfl ?_
  refine so rfl ?_
  refine C_if rfl (fun hb8=>?_) (fun hb8=>?_)
  ·replace h:=cT hb8 h
   iterate 2 refine sc rfl ?_
   refine so rfl ?_
   refine so rfl ?_
   refine sc rfl ?_
   obtain rfl:=osi h
   exact ⟨_,rfl,rfl,rfl⟩
  ·replace h:=cF hb8 h
   iterate 3 refine sc rfl ?_
   refine so rfl ?_
   refine so rfl ?_
   refine sc rfl ?_
   obtain rfl:=osi h
   exact ⟨_,rfl,rfl,rfl⟩
 ·replace h:=cF hb7 h
  iterate 4 refine sc rfl ?_
  refine so rfl ?_
  refine so rfl ?_
  refine C_if rfl (fun hb9=>?_) (fun hb9=>?_)
  ·replace h:=cT hb9 h
   iterate 2 refine sc rfl ?_
   refine so rfl ?_
   refine so rfl ?_
   refine sc rfl ?_
   obtain rfl:=osi h
   exact ⟨_,rfl,rfl,rfl⟩
  ·replace h:=cF hb9 h
   iterate 4 refine sc rfl ?_
   iterate 3 refine so rfl ?_
   refine so rfl ?_
   refine C_if rfl (fun hb10=>?_) (fun hb10=>?_)
   ·replace h:=cT hb10 h
    iterate 2 refine sc rfl ?_
    refine so rfl ?_
    refine so rfl ?_
    refine sc rfl ?_
    obtain rfl:=osi h
    exact ⟨_,rfl,rfl,rfl⟩
   ·replace h:=cF hb10 h
    iterate 4 refine sc rfl ?_
    iterate 3 refine so rfl ?_
    refine so rfl ?_
    refine C_if rfl (fun hb11=>?_) (fun hb11=>?_)
    ·replace h:=cT hb11 h
     iterate 2 refine sc rfl ?_
     refine so rfl ?_
     refine so rfl ?_
     refine sc rfl ?_
     obtain rfl:=osi h
     exact ⟨_,rfl,rfl,rfl⟩
    ·replace h:=cF hb11 h
     iterate 3 refine sc rfl ?_
     refine so rfl ?_
     refine so rfl ?_
     refine sc rfl ?_
     obtain rfl:=osi h
     exact ⟨_,rfl,rfl,rfl⟩
noncomputable def CmpI_F (x:Int) (y:Int):Option (Int) :=
 Option.bind (IsNaNi_F x) (fun r1=>Option.bind (IsNaNi_F y) (fun r4=>cond r1 (cond r4 (some 0) (some (-1))) (cond r4 (some 1) (cond (decide (x<y)) (some (-1)) (cond (decide (y<x)) (some 1) (some 0))))))
theorem CmpI_w (x:Int) (y:Int) (r:Int) (h:CmpI_F x y=some r):FnP Tryz.prog 165 [I64 x,I64 y] (·=I64 r):=by
 unfold CmpI_F at h
 refine fnP Tryz.func165 fun X=>?_
 iterate 2 refine sc rfl ?_
 refine so rfl ?_
 refine so rfl ?_
 iterate 2 refine sc rfl ?_
 refine so rfl ?_
 obtain ⟨r1,hr2,h⟩:=bT h
 refine O_cP (IsNaNi_w _ _ hr2) fun q3 hq3=>?_
 subst hq3
 refine so rfl ?_
 refine so rfl ?_
 iterate 2 refine sc rfl ?_
 refine so rfl ?_
 obtain ⟨r4,hr5,h⟩:=bT h
 refine O_cP (IsNaNi_w _ _ hr5) fun q6 hq6=>?_
 subst hq6
 refine so rfl ?_
 refine so rfl ?_
 iterate 3 refine sc rfl ?_
 refine so rfl ?_
 refine so rfl ?_
 refine C_if rfl (fun hb7=>?_) (fun hb7=>?_)
 ·replace h:=cT hb7 h
  iterate 3 refine sc rfl ?_
  refine so rfl ?_
  refine so rfl ?_
  refine C_if rfl (fun hb8=>?_) (fun hb8=>?_)
  ·replace h:=cT hb8 h
   iterate 2 refine sc rfl ?_
   refine so rfl ?_
   refine so rfl ?_
   refine sc rfl ?_
   obtain rfl:=osi h
   exact ⟨_,rfl,rfl,rfl⟩
  ·replace h:=cF hb8 h
   iterate 3 refine sc rfl ?_
   refine so rfl ?_
   refine so rfl ?_
   refine sc rfl ?_
   obtain rfl:=osi h
   exact ⟨_,rfl,rfl,rfl⟩
 ·replace h:=cF hb7 h
  iterate 4 refine sc rfl ?_
  refine so rfl ?_
  refine so rfl ?_
  refine C_if rfl (fun hb9=>?_) (fun hb9=>?_)
  ·replace h:=cT hb9 h
   iterate 2 refine sc rfl ?_
   refine so rfl ?_
   refine so rfl ?_
   refine sc rfl ?_
   obtain rfl:=osi h
   exact ⟨_,rfl,rfl,rfl⟩
  ·replace h:=cF hb9 h
   iterate 4 refine sc rfl ?_
   iterate 3 refine so rfl ?_
   refine so rfl ?_
   refine C_if rfl (fun hb10=>?_) (fun hb10=>?_)
   ·replace h:=cT hb10 h
    iterate 2 refine sc rfl ?_
    refine so rfl ?_
    refine so rfl ?_
    refine sc rfl ?_
    obtain rfl:=osi h
    exact ⟨_,rfl,rfl,rfl⟩
   ·replace h:=cF hb10 h
    iterate 4 refine sc rfl ?_
    iterate 3 refine so rfl ?_
    refine so rfl ?_
    refine C_if rfl (fun hb11=>?_) (fun hb11=>?_)
    ·replace h:=cT hb11 h
     iterate 2 refine sc rfl ?_
     refine so rfl ?_
     refine so rfl ?_
     refine sc rfl ?_
     obtain rfl:=osi h
     exact ⟨_,rfl,rfl,rfl⟩
    ·replace h:=cF hb11 h
     iterate 3 refine sc rfl ?_
     refine so rfl ?_
     refine so rfl ?_
     refine sc rfl ?_
     obtain rfl:=osi h
     exact ⟨_,rfl,rfl,rfl⟩
noncomputable def KeyedV_F (k:Int):Option (Bool) :=
 Option.bind (α:=Bool) (cond (k == 1) (some (k == 1)) (cond (k == 2) (some (k == 2)) (cond (k == 3) (some (k == 3)) (cond (k == 6) (some (k == 6)) (some (k == 4)))))) (fun m1=>cond m1 (some true) (some false))
theorem KeyedV_w (k:Int) (r:Bool) (h:KeyedV_F k=some r):FnP Tryz.prog 162 [I64 k] (·=B r):=by
 unfold KeyedV_F at h
 refine fnP Tryz.func162 fun X=>?_
 iterate 2 refine sc rfl ?_
 refine so rfl ?_
 refine so rfl ?_
 iterate 3 refine sc rfl ?_
 refine so rfl ?_
 refine so rfl ?_
 iterate 4 refine sc rfl ?_
 iterate 2 refine so rfl ?_
 refine so rfl ?_
 obtain ⟨m1,hm1,h⟩:=bT h
 refine C_join ⟨[(4,B m1)],[]⟩ ?_ (fun s hm1s=>C_le _ hm1s ?_)
 ·refine C_if rfl (fun hb2=>?_) (fun hb2=>?_)
  ·replace hm1:=cT hb2 hm1
   refine sc rfl ?_
   obtain rfl:=osi hm1
   exact Le.sub [] ⟨rfl,trivial⟩ rfl
  ·replace hm1:=cF hb2 hm1
   iterate 2 refine sc rfl ?_
   iterate 2 refine so rfl ?_
   refine so rfl ?_
   refine C_if rfl (fun hb3=>?_) (fun hb3=>?_)
   ·replace hm1:=cT hb3 hm1
    refine sc rfl ?_
    obtain rfl:=osi hm1
    exact Le.sub [] ⟨rfl,trivial⟩ rfl
   ·replace hm1:=cF hb3 hm1
    iterate 2 refine sc rfl ?_
    iterate 2 refine so rfl ?_
    refine so rfl ?_
    refine C_if rfl (fun hb4=>?_) (fun hb4=>?_)
    ·replace hm1:=cT hb4 hm1
     refine sc rfl ?_
     obtain rfl:=osi hm1
     exact Le.sub [] ⟨rfl,trivial⟩ rfl
    ·replace hm1:=cF hb4 hm1
     iterate 2 refine sc rfl ?_
     iterate 2 refine so rfl ?_
     refine so rfl ?_
     refine C_if rfl (fun hb5=>?_) (fun hb5=>?_)
     ·replace hm1:=cT hb5 hm1
      refine sc rfl ?_
      obtain rfl:=osi hm1
      exact Le.sub [] ⟨rfl,trivial⟩ rfl
     ·replace hm1:=cF hb5 hm1
      refine sc rfl ?_
      iterate 2 refine so rfl ?_
      refine so rfl ?_
      obtain rfl:=osi hm1
      exact Le.sub [] ⟨rfl,trivial⟩ rfl
 refine C_if rfl (fun hb6=>?_) (fun hb6=>?_)
 ·replace h:=cT hb6 h
  iterate 2 refine sc rfl ?_
  refine so rfl ?_
  refine so rfl ?_
  refine sc rfl ?_
  obtain rfl:=osi h
  exact ⟨_,rfl,rfl,rfl⟩
 ·replace h:=cF hb6 h
  iterate 3 refine sc rfl ?_
  refine so rfl ?_
  refine so rfl ?_
  refine sc rfl ?_
  obtain rfl:=osi h
  exact ⟨_,rfl,rfl,rfl⟩
noncomputable def BareV_F (v:Val):Option (Bool) :=
 Option.bind (α:=Bool) (cond ((v.tags.length:Int) == 0) (some ((v.items.length:Int) == 0)) (some false)) (fun m1=>some m1)
theorem BareV_w (v:Val) (r:Bool) (h:BareV_F v=some r):FnP Tryz.prog 213 [.agg (Val.c v)] (·=B r):=by
 unfold BareV_F at h
 refine fnP Tryz.func213 fun X=>?_
 iterate 2 refine sc rfl ?_
 iterate 2 refine so rfl ?_
 refine so rfl ?_
 refine sc rfl ?_
 obtain ⟨m1,hm1,h⟩:=bT h
 refine C_join ⟨[(2,B m1)],[.box 1 26 [I64 v.kind,I64 v.num,.s v.text,SL 1 INTc v.tags,.sl v.items.length 5 (Val.rows v.items)]]⟩ ?_ (fun s hm1s=>C_le _ hm1s ?_)
 ·refine sc rfl ?_
  iterate 5 refine so rfl ?_
  refine O_case 7 rfl (fun hb2=>?_) (fun hb2=>?_)
  ·replace hm1:=cT hb2 hm1
   iterate 2 refine so rfl ?_
   refine O_le _ (Le.one 9 (SL 5 Val.c v.items) rfl (.row (Val.rows_eq _))) ?_
   iterate 4 refine so rfl ?_
   refine so rfl ?_
   obtain rfl:=osi hm1
   exact Le.sub [1] ⟨rfl,trivial⟩ rfl
  ·replace hm1:=cF hb2 hm1
   iterate 6 refine so rfl ?_
   refine so rfl ?_
   obtain rfl:=osi hm1
   exact Le.sub [1] ⟨rfl,trivial⟩ rfl
 refine sc rfl ?_
 obtain rfl:=osi h
 exact ⟨_,rfl,rfl,rfl⟩
noncomputable def SglV_F (sh:Sgl) (v:Val):Option (Bool) :=
 Option.bind (α:=Bool) (Option.bind (BareV_F v) (fun r2=>cond r2 (cond (v.text == []) (cond (decide (sh.least≤v.num)) (some (decide (v.num≤sh.most))) (some false)) (some false)) (some false))) (fun m1=>some m1)
theorem SglV_w (sh:Sgl) (v:Val) (r:Bool) (h:SglV_F sh v=some r):FnP Tryz.prog 212 [.agg (Sgl.c sh),.agg (Val.c v)] (·=B r):=by
 unfold SglV_F at h
 refine fnP Tryz.func212 fun X=>?_
 iterate 2 refine sc rfl ?_
 iterate 3 refine so rfl ?_
 refine so rfl ?_
 refine sc rfl ?_
 obtain ⟨m1,hm1,h⟩:=bT h
 refine C_join ⟨[(4,B m1)],[.box 2 219 [I64 sh.least,I64 sh.most],.box 3 26 [I64 v.kind,I64 v.num,.s v.text,SL 1 INTc v.tags,.sl v.items.length 5 (Val.rows v.items)]]⟩ ?_ (fun s hm1s=>C_le _ hm1s ?_)
 ·refine sc rfl ?_
  refine so rfl ?_
  obtain ⟨r2,hr3,hm1⟩:=bT hm1
  refine O_cP (BareV_w _ _ hr3) fun q4 hq4=>?_
  subst hq4
  refine so rfl ?_
  refine O_case 7 rfl (fun hb5=>?_) (fun hb5=>?_)
  ·replace hm1:=cT hb5 hm1
   iterate 5 refine so rfl ?_
   refine O_case 12 rfl (fun hb6=>?_) (fun hb6=>?_)
   ·replace hm1:=cT hb6 hm1
    iterate 7 refine so rfl ?_
    refine O_case 19 rfl (fun hb7=>?_) (fun hb7=>?_)
    ·replace hm1:=cT hb7 hm1
     iterate 7 refine so rfl ?_
     refine so rfl ?_
     obtain rfl:=osi hm1
     exact Le.sub [2,3] ⟨rfl,trivial⟩ rfl
    ·replace hm1:=cF hb7 hm1
     iterate 7 refine so rfl ?_
     refine so rfl ?_
     obtain rfl:=osi hm1
     exact Le.sub [2,3] ⟨rfl,trivial⟩ rfl
   ·replace hm1:=cF hb6 hm1
    iterate 14 refine so rfl ?_
    refine so rfl ?_
    obtain rfl:=osi hm1
    exact Le.sub [2,3] ⟨rfl,trivial⟩ rfl
  ·replace hm1:=cF hb5 hm1
   iterate 19 refine so rfl ?_
   refine so rfl ?_
   obtain rfl:=osi hm1
   exact Le.sub [2,3] ⟨rfl,trivial⟩ rfl
 refine sc rfl ?_
 obtain rfl:=osi h
 exact ⟨_,rfl,rfl,rfl⟩
noncomputable def MnyV_F (sh:Mny) (v:Val):Option (Bool) :=
 Option.bind (α:=Bool) (cond (v.num == 0) (cond (v.text == []) (some ((v.tags.length:Int) == 0)) (some false)) (some false)) (fun m1=>some m1)
theorem MnyV_w (sh:Mny) (v:Val) (r:Bool) (h:MnyV_F sh v=some r):FnP Tryz.prog 215 [.agg (Mny.c (⟨⟩:Mny)),.agg (Val.c v)] (·=B r):=by
 unfold MnyV_F at h
 refine fnP Tryz.func215 fun X=>?_
 iterate 2 refine sc rfl ?_
 iterate 3 refine so rfl ?_
 refine so rfl ?_
 refine sc rfl ?_
 obtain ⟨m1,hm1,h⟩:=bT h
 refine C_join ⟨[(4,B m1)],[.box 2 222 [],.box 3 26 [I64 v.kind,I64 v.num,.s v.text,SL 1 INTc v.tags,.sl v.items.length 5 (Val.rows v.items)]]⟩ ?_ (fun s hm1s=>C_le _ hm1s ?_)
 ·refine sc rfl ?_
  iterate 4 refine so rfl ?_
  refine O_case 8 rfl (fun hb2=>?_) (fun hb2=>?_)
  ·replace hm1:=cT hb2 hm1
   iterate 5 refine so rfl ?_
   refine O_case 13 rfl (fun hb3=>?_) (fun hb3=>?_)
   ·replace hm1:=cT hb3 hm1
    iterate 6 refine so rfl ?_
    refine so rfl ?_
    obtain rfl:=osi hm1
    exact Le.sub [2,3] ⟨rfl,trivial⟩ rfl
   ·replace hm1:=cF hb3 hm1
    iterate 6 refine so rfl ?_
    refine so rfl ?_
    obtain rfl:=osi hm1
    exact Le.sub [2,3] ⟨rfl,trivial⟩ rfl
  ·replace hm1:=cF hb2 hm1
   iterate 11 refine so rfl ?_
   refine so rfl ?_
   obtain rfl:=osi hm1
   exact Le.sub [2,3] ⟨rfl,trivial⟩ rfl
 refine sc rfl ?_
 obtain rfl:=osi h
 exact ⟨_,rfl,rfl,rfl⟩
noncomputable def TgdV_L7 (sh:Tgd) (v:Val) (m1:Bool) (s7:Int×Int):Option ((Int×Int) ⊕ ((Bool) ⊕ (Unit))) :=
 cond (decide (s7.2<(v.tags.length:Int))) (chk ((0:Int)≤s7.2∧s7.2<(v.tags.length:Int)) (cond (decide ((v.tags.getD (Int.toNat s7.2) default)≤s7.1)) (some (Sum.inr ((Sum.inl false)))) (cond (decide (255<(v.tags.getD (Int.toNat s7.2) default))) (some (Sum.inr ((Sum.inl false)))) (some (Sum.inl (v.tags.getD (Int.toNat s7.2) default,IntKind.i64.wrap (s7.2+1))))))) (some (Sum.inr ((Sum.inr ()))))
noncomputable def TgdV_F (sh:Tgd) (v:Val):Option (Bool) :=
 Option.bind (α:=Bool) (cond (v.num != 0) (some true) (cond (!(v.text == [])) (some true) (cond ((v.tags.length:Int) != (v.items.length:Int)) (some true) (cond (decide (0<sh.most)) (some ((v.tags.length:Int) != sh.most)) (some false))))) (fun m1=>cond m1 (some false) (Option.bind (Iter (TgdV_L7 sh v m1) (0,0)) (Sum.elim (fun c17=>some c17) (fun b12=>some true))))
theorem TgdV_w (sh:Tgd) (v:Val) (r:Bool) (h:TgdV_F sh v=some r):FnP Tryz.prog 217 [.agg (Tgd.c sh),.agg (Val.c v)] (·=B r):=by
 unfold TgdV_F at h
 refine fnP Tryz.func217 fun X=>?_
 iterate 2 refine sc rfl ?_
 iterate 3 refine so rfl ?_
 refine so rfl ?_
 iterate 2 refine sc rfl ?_
 obtain ⟨m1,hm1,h⟩:=bT h
 refine C_join ⟨[(3,.bp 3 0),(37,B m1)],[.box 2 225 [I64 sh.most],.box 3 26 [I64 v.kind,I64 v.num,.s v.text,SL 1 INTc v.tags,.sl v.items.length 5 (Val.rows v.items)]]⟩ ?_ (fun s hm1s=>C_le _ hm1s ?_)
 ·refine sc rfl ?_
  iterate 4 refine so rfl ?_
  refine O_case 11 rfl (fun hb2=>?_) (fun hb2=>?_)
  ·replace hm1:=cT hb2 hm1
   iterate 26 refine so rfl ?_
   refine so rfl ?_
   obtain rfl:=osi hm1
   exact Le.sub [2,3] ⟨rfl,rfl,trivial⟩ rfl
  ·replace hm1:=cF hb2 hm1
   iterate 5 refine so rfl ?_
   refine O_case 16 rfl (fun hb3=>?_) (fun hb3=>?_)
   ·replace hm1:=cT hb3 hm1
    iterate 21 refine so rfl ?_
    refine so rfl ?_
    obtain rfl:=osi hm1
    exact Le.sub [2,3] ⟨rfl,rfl,trivial⟩ rfl
   ·replace hm1:=cF hb3 hm1
    iterate 5 refine so rfl ?_
    refine O_le _ (Le.one 21 (SL 5 Val.c v.items) rfl (.row (Val.rows_eq _))) ?_
    iterate 4 refine so rfl ?_
    refine O_case 25 rfl (fun hb4=>?_) (fun hb4=>?_)
    ·replace hm1:=cT hb4 hm1
     iterate 12 refine so rfl ?_
     refine so rfl ?_
     obtain rfl:=osi hm1
     exact Le.sub [2,3] ⟨rfl,rfl,trivial⟩ rfl
    ·replace hm1:=cF hb4 hm1
     iterate 4 refine so rfl ?_
     refine O_case 29 rfl (fun hb5=>?_) (fun hb5=>?_)
     ·replace hm1:=cT hb5 hm1
      iterate 8 refine so rfl ?_
      refine so rfl ?_
      obtain rfl:=osi hm1
      exact Le.sub [2,3] ⟨rfl,rfl,trivial⟩ rfl
     ·replace hm1:=cF hb5 hm1
      iterate 8 refine so rfl ?_
      refine so rfl ?_
      obtain rfl:=osi hm1
      exact Le.sub [2,3] ⟨rfl,rfl,trivial⟩ rfl
 refine C_if rfl (fun hb6=>?_) (fun hb6=>?_)
 ·replace h:=cT hb6 h
  iterate 2 refine sc rfl ?_
  refine so rfl ?_
  refine so rfl ?_
  refine sc rfl ?_
  obtain rfl:=osi h
  exact ⟨_,rfl,rfl,rfl⟩
 ·replace h:=cF hb6 h
  iterate 3 refine sc rfl ?_
  refine so rfl ?_
  refine so rfl ?_
  iterate 3 refine sc rfl ?_
  iterate 4 refine so rfl ?_
  refine so rfl ?_
  obtain ⟨o8,ho8,h⟩:=bT h
  refine C_joinP ((fun b12:Unit=>(⟨[],[]⟩:St)) (match o8 with|(.inl b12)=>default|(.inr b12)=>b12)) (∃ b,o8=(.inr b)) ?_ (fun s hs hp=>?_)
  ·refine sc rfl ?_
   refine C_iter (fun s7:Int×Int=>⟨[(5,I64 s7.1),(39,SL 1 INTc v.tags),(40,I64 (v.tags.length:Int)),(41,I64 s7.2)],[.box 2 225 [I64 sh.most],.box 3 26 [I64 v.kind,I64 v.num,.s v.text,SL 1 INTc v.tags,.sl v.items.length 5 (Val.rows v.items)]]⟩) ho8 (Le.sub [2,3] ⟨rfl,rfl,rfl,rfl,trivial⟩ rfl) (fun s7 y9 hy10 hr11=>?_)
   unfold TgdV_L7 at hy10
   iterate 2 refine sc rfl ?_
   refine so rfl ?_
   refine so rfl ?_
   refine sc rfl ?_
   refine C_if rfl (fun hb13=>?_) (fun hb13=>?_)
   ·replace hy10:=cT hb13 hy10
    iterate 5 refine sc rfl ?_
    obtain ⟨g14,hy10⟩:=gT hy10
    refine so rfl (And.intro g14 ?_)
    iterate 2 refine so rfl ?_
    refine so rfl ?_
    iterate 3 refine sc rfl ?_
    iterate 4 refine so rfl ?_
    refine O_case 48 rfl (fun hb15=>?_) (fun hb15=>?_)
    ·replace hy10:=cT hb15 hy10
     iterate 3 refine so rfl ?_
     refine so rfl ?_
     refine C_true rfl rfl ?_
     iterate 2 refine sc rfl ?_
     refine so rfl ?_
     refine so rfl ?_
     refine sc rfl ?_
     obtain rfl:=osi hy10
     have ho82:=hr11 _ rfl
     subst ho82
     obtain rfl:=osi h
     exact ⟨_,rfl,rfl,rfl⟩
    ·replace hy10:=cF hb15 hy10
     iterate 3 refine so rfl ?_
     refine so rfl ?_
     refine C_if rfl (fun hb16=>?_) (fun hb16=>?_)
     ·replace hy10:=cT hb16 hy10
      iterate 2 refine sc rfl ?_
      refine so rfl ?_
      refine so rfl ?_
      refine sc rfl ?_
      obtain rfl:=osi hy10
      have ho82:=hr11 _ rfl
      subst ho82
      obtain rfl:=osi h
      exact ⟨_,rfl,rfl,rfl⟩
     ·replace hy10:=cF hb16 hy10
      iterate 2 refine sc rfl ?_
      iterate 2 refine so rfl ?_
      refine so rfl ?_
      refine sc rfl ?_
      iterate 2 refine so rfl ?_
      refine so rfl ?_
      obtain rfl:=osi hy10
      exact ⟨_,rfl,Le.sub [2,3] ⟨rfl,rfl,rfl,rfl,trivial⟩ rfl⟩
   ·replace hy10:=cF hb13 hy10
    refine sc rfl ?_
    obtain rfl:=osi hy10
    have ho82:=hr11 _ rfl
    subst ho82
    exact ⟨Le.sub [] trivial rfl,⟨_,rfl⟩⟩
  obtain ⟨b12,rfl⟩:=hp
  refine C_le ⟨[],[]⟩ hs ?_
  iterate 2 refine sc rfl ?_
  refine so rfl ?_
  refine so rfl ?_
  refine sc rfl ?_
  obtain rfl:=osi h
  exact ⟨_,rfl,rfl,rfl⟩
noncomputable def DeepV_L1 (rec:Val→Option (Int)) (v:Val) (s1:Int×Int):Option ((Int×Int) ⊕ ((Int))) :=
 cond (decide (s1.2<(v.items.length:Int))) (chk ((0:Int)≤s1.2∧s1.2<(v.items.length:Int)) (Option.bind (rec (v.items.getD (Int.toNat s1.2) default)) (fun r9=>some (Sum.inl (max s1.1 r9,IntKind.i64.wrap (s1.2+1)))))) (some (Sum.inr (s1.1)))
noncomputable def DeepV_F (rec:Val→Option (Int)) (v:Val):Option (Int) :=
 Option.bind (Iter (DeepV_L1 rec v) (0,0)) (fun o2=>some (IntKind.i64.wrap (o2+1)))
theorem DeepV_wb (rec:Val→Option (Int)) (v:Val) (r:Int) (hrec:∀ v r,rec v=some r→FnP Tryz.prog 43 [.agg (Val.c v)] (·=I64 r)) (h:DeepV_F rec v=some r):FnP Tryz.prog 43 [.agg (Val.c v)] (·=I64 r):=by
 unfold DeepV_F at h
 refine fnP Tryz.func43 fun X=>?_
 iterate 2 refine sc rfl ?_
 iterate 2 refine so rfl ?_
 refine so rfl ?_
 iterate 2 refine sc rfl ?_
 refine so rfl ?_
 refine so rfl ?_
 iterate 3 refine sc rfl ?_
 iterate 2 refine so rfl ?_
 refine O_le _ (Le.one 7 (SL 5 Val.c v.items) rfl (.row (Val.rows_eq _))) ?_
 iterate 2 refine so rfl ?_
 refine so rfl ?_
 obtain ⟨o2,ho2,h⟩:=bT h
 refine C_joinP ⟨[(3,I64 o2)],[]⟩ True ?_ (fun s hs hp=>?_)
 ·refine sc rfl ?_
  refine C_iter (fun s1:Int×Int=>⟨[(3,I64 s1.1),(7,SL 5 Val.c v.items),(8,I64 (v.items.length:Int)),(9,I64 s1.2)],[.box 1 26 [I64 v.kind,I64 v.num,.s v.text,SL 1 INTc v.tags,.sl v.items.length 5 (Val.rows v.items)]]⟩) ho2 (Le.sub [1] ⟨rfl,rfl,rfl,rfl,trivial⟩ rfl) (fun s1 y3 hy4 hr5=>?_)
  unfold DeepV_L1 at hy4
  iterate 2 refine sc rfl ?_
  refine so rfl ?_
  refine so rfl ?_
  refine sc rfl ?_
  refine C_if rfl (fun hb7=>?_) (fun hb7=>?_)
  ·replace hy4:=cT hb7 hy4
   iterate 5 refine sc rfl ?_
   obtain ⟨g8,hy4⟩:=gT hy4
   refine so rfl (And.intro g8 ?_)
   refine so rfl ?_
   iterate 2 refine so rfl ?_
   refine so rfl ?_
   refine sc rfl ?_
   iterate 2 refine so rfl ?_
   obtain ⟨r9,hr10,hy4⟩:=bT hy4
   refine O_cP (hrec _ _ hr10) fun q11 hq11=>?_
   subst hq11
   iterate 2 refine so rfl ?_
   refine so rfl ?_
   refine sc rfl ?_
   iterate 2 refine so rfl ?_
   refine so rfl ?_
   obtain rfl:=osi hy4
   exact ⟨_,rfl,Le.sub [1] ⟨rfl,rfl,rfl,rfl,trivial⟩ rfl⟩
  ·replace hy4:=cF hb7 hy4
   refine sc rfl ?_
   obtain rfl:=osi hy4
   have ho22:=hr5 _ rfl
   subst ho22
   exact ⟨Le.sub [] ⟨rfl,trivial⟩ rfl,trivial⟩
 refine C_le ⟨[(3,I64 o2)],[]⟩ hs ?_
 iterate 2 refine sc rfl ?_
 iterate 3 refine so rfl ?_
 refine so rfl ?_
 refine sc rfl ?_
 obtain rfl:=osi h
 exact ⟨_,rfl,rfl,rfl⟩
noncomputable def DeepV_X:Nat→Val→Option (Int)
 | 0=>fun _=>none
 | n+1=>DeepV_F (DeepV_X n)
theorem DeepV_wn:∀ (n:Nat) (v:Val) (r:Int),DeepV_X n v=some r→FnP Tryz.prog 43 [.agg (Val.c v)] (·=I64 r)
 | 0,_,_,h=>by cases h
 | n+1,v,r,h=>DeepV_wb (DeepV_X n) v r (fun v r hr=>DeepV_wn n v r hr) h
theorem DeepV_w (v:Val) (r:Int) (h:DeepV_X FU v=some r):FnP Tryz.prog 43 [.agg (Val.c v)] (·=I64 r):=DeepV_wn FU v r h
noncomputable def FKind_F (t:Int):Option (Int) :=
 cond (t == 1) (some 1) (cond (t == 2) (some 2) (cond (t == 3) (some 3) (cond (t == 4) (some 4) (cond (t == 5) (some 5) (some 0)))))
theorem FKind_w (t:Int) (r:Int) (h:FKind_F t=some r):FnP Tryz.prog 87 [I64 t] (·=I64 r):=by
 unfold FKind_F at h
 refine fnP Tryz.func87 fun X=>?_
 iterate 2 refine sc rfl ?_
 refine so rfl ?_
 refine so rfl ?_
 iterate 3 refine sc rfl ?_
 refine so rfl ?_
 refine so rfl ?_
 iterate 3 refine sc rfl ?_
 iterate 2 refine so rfl ?_
 refine so rfl ?_
 refine C_if rfl (fun hb1=>?_) (fun hb1=>?_)
 ·replace h:=cT hb1 h
  iterate 2 refine sc rfl ?_
  refine so rfl ?_
  refine so rfl ?_
  refine sc rfl ?_
  obtain rfl:=osi h
  exact ⟨_,rfl,rfl,rfl⟩
 ·replace h:=cF hb1 h
  iterate 2 refine sc rfl ?_
  iterate 2 refine so rfl ?_
  refine so rfl ?_
  refine C_if rfl (fun hb2=>?_) (fun hb2=>?_)
  ·replace h:=cT hb2 h
   iterate 2 refine sc rfl ?_
   refine so rfl ?_
   refine so rfl ?_
   refine sc rfl ?_
   obtain rfl:=osi h
   exact ⟨_,rfl,rfl,rfl⟩
  ·replace h:=cF hb2 h
   iterate 2 refine sc rfl ?_
   iterate 2 refine so rfl ?_
   refine so rfl ?_
   refine C_if rfl (fun hb3=>?_) (fun hb3=>?_)
   ·replace h:=cT hb3 h
    iterate 2 refine sc rfl ?_
    refine so rfl ?_
    refine so rfl ?_
    refine sc rfl ?_
    obtain rfl:=osi h
    exact ⟨_,rfl,rfl,rfl⟩
   ·replace h:=cF hb3 h
    iterate 2 refine sc rfl ?_
    iterate 2 refine so rfl ?_
    refine so rfl ?_
    refine C_if rfl (fun hb4=>?_) (fun hb4=>?_)
    ·replace h:=cT hb4 h
     iterate 2 refine sc rfl ?_
     refine so rfl ?_
     refine so rfl ?_
     refine sc rfl ?_
     obtain rfl:=osi h
     exact ⟨_,rfl,rfl,rfl⟩
    ·replace h:=cF hb4 h
     iterate 2 refine sc rfl ?_
     iterate 2 refine so rfl ?_
     refine so rfl ?_
     refine C_if rfl (fun hb5=>?_) (fun hb5=>?_)
     ·replace h:=cT hb5 h
      iterate 2 refine sc rfl ?_
      refine so rfl ?_
      refine so rfl ?_
      refine sc rfl ?_
      obtain rfl:=osi h
      exact ⟨_,rfl,rfl,rfl⟩
     ·replace h:=cF hb5 h
      iterate 3 refine sc rfl ?_
      refine so rfl ?_
      refine so rfl ?_
      refine sc rfl ?_
      obtain rfl:=osi h
      exact ⟨_,rfl,rfl,rfl⟩
end Go.Proofs

namespace Go.Proofs
open Go.Sy Go.Lib

def tx1:List UInt8:=[115,116,114,117,99,116,32,80,32,123,32,49,32,97,58,32,105,110,116,59,32,125]
def fA:Fld:=⟨1,[97],⟨2,[],[]⟩⟩
def sc1:List Dcl:=[⟨1,[80],[fA],[],0⟩]
theorem par1:parseF tx1=(sc1,0,0):=by rfl
end Go.Proofs

namespace Go.Proofs
open Go.Sy Go.Lib

theorem Cmp2_c (a b:Int):FnP Tryz.prog 53 [I64 a,I64 b] (·=I64 (cmpI a b)):=by
 refine Compare_w a b _ ?_
 unfold Compare_F IsNaN_F cmpI
 by_cases h1:a<b
 ·simp [h1]
 ·by_cases h2:b<a
  ·simp [h1,h2]
  ·simp [h1,h2]
theorem rowCmp_c (f:Fld) (t:Int):FnP Tryz.prog 52 [.agg (Fld.c f),I64 t] (·=I64 (cmpI f.tag t)):=by
 refine fnP Tryz.func52 fun X=>?_
 repeat (first|refine sc rfl ?_|refine so rfl ?_)
 refine O_cP (Cmp2_c f.tag t) fun r hr=>?_
 subst hr
 repeat (first|refine sc rfl ?_|refine so rfl ?_)
 exact ⟨_,rfl,rfl,rfl⟩

theorem cmp_eq (a b:Int):cmpI a b=0↔a=b:=by
 unfold cmpI
 split
 ·constructor
  ·intro h;cases h
  ·intro h;omega
 ·split
  ·constructor
   ·intro h;cases h
   ·intro h;omega
  ·constructor
   ·intro _;omega
   ·intro _;rfl
theorem bin_c (R:List Fld) (hl:R.length≤1000) (hs:∀ i j,i<j→j<R.length→(R.getD i default).tag<(R.getD j default).tag) (t:Int) :
  FnP Tryz.prog 51 [SL 5 Fld.c R,I64 t,.v (.func (.func 52) #[] #[])] (fun r=>∃ (i:Nat) (v:Bool),r=.tup [I64 (i:Nat),B v]∧(v=true→i<R.length∧(R.getD i default).tag=t)∧(v=false→∀ j,j<R.length→(R.getD j default).tag≠t)):=by
 refine fnP Tryz.func51 fun X=>?_
 repeat (first|refine sc rfl ?_|refine so rfl ?_)
 refine C_loop (fun q:Nat×Nat=>⟨[(0,SL 5 Fld.c R),(1,I64 t),(2,.v (.func (.func 52) #[] #[])),(8,I64 (R.length:Nat)),(9,I64 (q.1:Nat)),(10,I64 (q.2:Nat))],[]⟩)
  (fun q=>q.1≤q.2∧q.2≤R.length∧(∀ j,j<q.1→(R.getD j default).tag<t)∧∀ j,q.2≤j→j<R.length→t≤(R.getD j default).tag) (fun q=>q.2-q.1) (0,R.length) ⟨Nat.zero_le _,Nat.le_refl _,fun j hj=>absurd hj (Nat.not_lt_zero _),fun j h1 h2=>by simp only [] at h1;omega⟩ (Le.sub [] ⟨rfl,rfl,rfl,rfl,rfl,rfl,trivial⟩ rfl) ?_
 rintro ⟨i,j⟩ ⟨g1,g2,g3,g4⟩
 simp only [] at g1 g2 g3 g4
 repeat (first|refine sc rfl ?_|refine so rfl ?_)
 refine C_if rfl (fun m1=>?_) (fun m1=>?_)<;>simp only [pL] at m1
 ·have hij:i<j:=by omega
  repeat (first|refine sc rfl ?_|refine so rfl ?_)
  refine ⟨by decide,?_⟩
  repeat (first|refine sc rfl ?_|refine so rfl ?_)
  rw [mid_wrap (i:=i) (j:=j) (by omega)]
  have hc1:i≤(i+j) / 2:=by omega
  have hc2:(i+j) / 2<j:=by omega
  generalize (i+j) / 2=c at hc1 hc2 ⊢
  repeat refine sc rfl ?_
  refine ⟨by omega,?_⟩
  rw [Int.toNat_natCast]
  repeat refine so rfl ?_
  refine O_callAV (isClo_func 52) rfl (FnP.toA (rowCmp_c (R.getD c default) t) []) rfl rfl rfl rfl (cs:=[]) (cr:=[]) (.refl _) rfl ?_
  rintro r cs' ⟨rfl,rfl⟩
  repeat refine so rfl ?_
  refine C_if rfl (fun m2=>?_) (fun m2=>?_)<;>rw [cmp_lt] at m2<;>simp only [pL] at m2
  ·repeat (first|refine sc rfl ?_|refine so rfl ?_)
   rw [w64 (x:=(c:Int)+1) (by omega) (by omega)]
   refine ⟨(c+1,j),⟨by simp only [];omega,g2,fun q hq=>?_,g4⟩,by simp only [];omega,Le.sub [] ⟨rfl,rfl,rfl,rfl,rfl,rfl,trivial⟩ rfl⟩
   simp only [] at hq
   by_cases hqc:q<c
   ·have:=hs q c hqc (by omega);omega
   ·obtain rfl:q=c:=by omega
    exact m2
  ·repeat (first|refine sc rfl ?_|refine so rfl ?_)
   refine ⟨(i,c),⟨hc1,by simp only [];omega,g3,fun q hq1 hq2=>?_⟩,by simp only [];omega,Le.sub [] ⟨rfl,rfl,rfl,rfl,rfl,rfl,trivial⟩ rfl⟩
   simp only [] at hq1
   by_cases hqc:c<q
   ·have:=hs c q hqc hq2;omega
   ·obtain rfl:q=c:=by omega
    omega
 ·obtain rfl:i=j:=by omega
  repeat (first|refine sc rfl ?_|refine so rfl ?_)
  refine O_case 39 rfl (fun k1=>?_) (fun k1=>?_)<;>simp only [pL] at k1
  ·have hil:i<R.length:=by omega
   repeat refine so rfl ?_
   refine ⟨by omega,?_⟩
   rw [Int.toNat_natCast]
   repeat refine so rfl ?_
   refine O_callAV (isClo_func 52) rfl (FnP.toA (rowCmp_c (R.getD i default) t) []) rfl rfl rfl rfl (cs:=[]) (cr:=[]) (.refl _) rfl ?_
   rintro r cs' ⟨rfl,rfl⟩
   repeat (first|refine sc rfl ?_|refine so rfl ?_)
   refine ⟨_,rfl,rfl,i,_,rfl,fun h=>⟨hil,?_⟩,fun h q hq=>?_⟩
   ·rw [beq_iff_eq] at h
    exact (cmp_eq _ _).1 h
   ·rw [beq_eq_false_iff_ne] at h
    have hne:(R.getD i default).tag≠t:=fun e=>h ((cmp_eq _ _).2 e)
    have:=g4 i (Nat.le_refl _) hil
    rcases Nat.lt_trichotomy q i with h1|h1|h1
    ·have:=g3 q h1;omega
    ·rw [h1];exact hne
    ·have:=hs i q h1 hq;omega
  ·repeat (first|refine sc rfl ?_|refine so rfl ?_)
   refine ⟨_,rfl,rfl,i,false,rfl,(fun h=>by cases h),fun _ q hq=>?_⟩
   have:=g3 q (by omega)
   omega
end Go.Proofs

namespace Go.Proofs
open Go.Sy Go.Lib

def rowV (R:List Fld) (tag:Int):AV:=match R.find? (fun f=>f.tag == tag) with
 | some f=>.tup [.agg (Fld.c f),B true]
 | none=>.tup [.agg [I64 0,.s [],I64 0,.s [],.v (.slice none 0 0)],B false]

theorem rowV_some {R:List Fld} (hs:R.Pairwise (fun a b=>a.tag<b.tag)) {f:Fld} (hf:f∈R):rowV R f.tag=.tup [.agg (Fld.c f),B true]:=by
 unfold rowV
 cases h:R.find? (fun g=>g.tag == f.tag) with
 | none =>
  have:=List.find?_eq_none.1 h f hf
  simp at this
 | some g =>
  have h1:=List.find?_some h
  have h2:=List.mem_of_find?_eq_some h
  simp only [beq_iff_eq] at h1
  have hn:(R.map (·.tag)).Nodup:=by
   rw [List.Nodup,List.pairwise_map]
   exact hs.imp (fun hab e=>by omega)
  rw [one_tag hn h2 hf h1]
theorem rowV_none {R:List Fld} {tag:Int} (h:∀ f∈R,f.tag≠tag):rowV R tag=.tup [.agg [I64 0,.s [],I64 0,.s [],.v (.slice none 0 0)],B false]:=by
 unfold rowV
 rw [List.find?_eq_none.2 (fun x hx=>by simpa using h x hx)]

theorem DRow_A (b:Nat) (l:List Dcl) (hP:Prep l) (hW:WellL l) (q:Option (List (List Fld))) (hq:Rdy l q) (nm:List UInt8) (tag:Int) :
  FnA Tryz.prog 30 [PT b 0,.s nm,I64 tag] [dsc b l q] (fun r cs'=>∃ Rs,RowsOK l Rs∧r=rowV (rowsL l Rs nm) tag∧cs'=[dsc b l (some Rs)]):=by
 refine fnA Tryz.func30 fun X=>?_
 repeat (first|refine sc rfl ?_|refine so rfl ?_)
 refine O_Xd (X_ptrnil Tryz.underlying32 rfl rfl rfl) ?_
 repeat refine so rfl ?_
 refine C_false rfl rfl ?_
 repeat (first|refine sc rfl ?_|refine so rfl ?_)
 refine O_cA [1] (ready_A b l hP q hq) ?_
 rintro r cs' ⟨rfl,Rs,hRs,rfl⟩
 have hlook:lookE nm (esOf l Rs)=(fndL nm l).map fun j=>SL 5 Fld.c (Rs.getD j default):=by
  rw [esOf_look nm l Rs (Nat.le_of_eq hRs.1)]
  cases hf:fndL nm l with
  | none=>rfl
  | some j=>simp only [Option.map_some];rw [if_pos (by rw [hRs.1];exact fndL_lt hf)]
 repeat (first|refine sc rfl ?_|refine so rfl ?_)
 refine O_loadP 0 (A:=dsc b l (some Rs)) (reads_box 5) rfl rfl rfl rfl rfl rfl ?_
 repeat refine so rfl ?_
 refine O_Xd (X_lookIS (z:=nilH) sK Tryz.underlying103 rfl rfl (fun e=>by simp only [Rep]) rfl (fun e v h=>kS e h) rfl rfl rfl rfl) ?_
 rw [hlook]
 cases hf:fndL nm l with
 | none =>
  simp only [lookAV,cond_false,Option.map_none,Option.getD_none]
  refine O_le _ (Le.conv 22 (y:=SL 5 Fld.c []) rfl (fun e v h=>by simp only [Rep] at h ⊢;exact repI_nil (by simpa only [RepI] using h))) ?_
  have hR:rowsL l Rs nm=[]:=by simp [rowsL,hf]
  repeat refine so rfl ?_
  refine O_cP (bin_c [] (by decide) (fun i j _ hj=>absurd hj (Nat.not_lt_zero _)) tag) fun r hr=>?_
  obtain ⟨i,v,rfl,h1,h2⟩:=hr
  cases v with
  | true=>exact absurd (h1 rfl).1 (Nat.not_lt_zero _)
  | false =>
   repeat (first|refine sc rfl ?_|refine so rfl ?_)
   refine C_if rfl (fun m1=>?_) (fun m1=>?_)
   ·repeat (first|refine sc rfl ?_|refine so rfl ?_)
    exact ⟨_,[_],_,rfl,pickA_perm (is:=[1]) (As:=[_]) rfl,rfl,⟨Rs,hRs,by rw [hR];rfl,rfl⟩⟩
   ·cases m1
 | some j =>
  have hj:=fndL_lt hf
  have hS:=hRs.2 j hj
  have hn:((l.getD j default).fields.map (·.tag)).Nodup:=(List.nodup_append.1 (hW j hj).tags).1
  have hpw:=hS.pw hn
  have hst:=(hS.facts hn).2
  have hmem:=(hS.facts hn).1
  have hR:rowsL l Rs nm=Rs.getD j default:=by simp [rowsL,hf]
  have hfw:=hS.few (hP.few.2 j hj).f
  rw [hf] at hlook
  simp only [lookAV,cond_false,Option.map_some,Option.getD_some] at hlook ⊢
  obtain ⟨R,hRe⟩:∃ R,Rs.getD j default=R:=⟨_,rfl⟩
  rw [hRe] at hlook hS hR hpw hst hmem hfw ⊢
  repeat refine so rfl ?_
  refine O_cP (bin_c R hfw.1 hst tag) fun r hr=>?_
  obtain ⟨i,v,rfl,h1,h2⟩:=hr
  cases v with
  | false =>
   repeat (first|refine sc rfl ?_|refine so rfl ?_)
   refine C_if rfl (fun m1=>?_) (fun m1=>?_)
   ·repeat (first|refine sc rfl ?_|refine so rfl ?_)
    exact ⟨_,[_],_,rfl,pickA_perm (is:=[1]) (As:=[_]) rfl,rfl,⟨Rs,hRs,by rw [hR];exact (rowV_none fun f hf=>by obtain ⟨k,hk,rfl⟩:=getD_mem hf;exact h2 rfl k hk).symm,rfl⟩⟩
   ·cases m1
  | true =>
   obtain ⟨hi,ht⟩:=h1 rfl
   repeat (first|refine sc rfl ?_|refine so rfl ?_)
   refine C_if rfl (fun m1=>by cases m1) (fun m1=>?_)
   repeat (first|refine sc rfl ?_|refine so rfl ?_)
   refine O_loadP 0 (A:=dsc b l (some Rs)) (reads_box 5) rfl rfl rfl rfl rfl rfl ?_
   repeat refine so rfl ?_
   refine O_Xd (X_lookIS (z:=nilH) sK Tryz.underlying103 rfl rfl (fun e=>by simp only [Rep]) rfl (fun e v h=>kS e h) rfl rfl rfl rfl) ?_
   rw [hlook]
   simp only [lookAV,cond_false,Option.map_some,Option.getD_some]
   repeat refine so rfl ?_
   refine ⟨by omega,?_⟩
   rw [Int.toNat_natCast]
   repeat (first|refine sc rfl ?_|refine so rfl ?_)
   refine O_cP (own_c _ (R.getD i default).ty (Nat.le_refl _) (hfw.2 i hi)) fun r hr=>?_
   subst hr
   repeat (first|refine sc rfl ?_|refine so rfl ?_)
   exact ⟨_,[_],_,rfl,pickA_perm (is:=[2]) (As:=[_]) rfl,rfl,⟨Rs,hRs,by rw [hR,← ht];exact (rowV_some hpw (mem_getDf hi)).symm,rfl⟩⟩
theorem DRow_S (b:Nat) (l:List Dcl) (hP:Prep l) (hW:WellL l) (nm:List UInt8) (tag:Int):FnA Tryz.prog 30 [PT b 0,.s nm,I64 tag] [dscS b l] (fun r cs'=>r=rowV (rowsU l nm) tag∧cs'=[dscS b l]) :=
 FnA_ex (φ:=fun r=>r=rowV (rowsU l nm) tag) (fun q hq=>(DRow_A b l hP hW q hq nm tag).mono (fun r cs' ⟨Rs,h1,h2,h3⟩=>⟨by rw [h2,rowsU_eq hW h1],some Rs,fun _ h=>by cases h;exact h1,h3⟩)) (DRow_A b l hP hW none (fun _ h=>by cases h) nm tag).1
end Go.Proofs

namespace Go.Proofs
open Go.Sy Go.Lib

theorem CType_c:∀ (n:Nat) (a b:Ty),SizeOf.sizeOf a≤n→FewT a→FnP Tryz.prog 89 [.agg (Ty.c a),.agg (Ty.c b)] (·=B (sameT a b))
 | 0,a,b,h,_=>by cases a;simp at h
 | n+1,a,b,hn,⟨hlen,hsub⟩=>by
  refine fnP Tryz.func89 fun X=>?_
  have hrec:∀ i,i<a.of.length→FnP Tryz.prog 89 [.agg (Ty.c (a.of.getD i default)),.agg (Ty.c (b.of.getD i default))] (·=B (sameT (a.of.getD i default) (b.of.getD i default))):=fun i hi=>CType_c n _ _ (by have:=of_lt hi;omega) (hsub i hi)
  repeat (first|refine sc rfl ?_|refine so rfl ?_)
  refine O_case 11 rfl (fun c1=>?_) (fun c1=>?_)<;>simp only [pL] at c1
  ·repeat refine so rfl ?_
   refine C_true rfl rfl ?_
   repeat (first|refine sc rfl ?_|refine so rfl ?_)
   exact ⟨_,rfl,rfl,by rw [sameT_false.2 (fun h=>c1 (by rw [h]))]⟩
  repeat refine so rfl ?_
  refine O_case 18 rfl (fun c2=>?_) (fun c2=>?_)<;>simp only [pL] at c2
  ·repeat refine so rfl ?_
   refine C_true rfl rfl ?_
   repeat (first|refine sc rfl ?_|refine so rfl ?_)
   exact ⟨_,rfl,rfl,by rw [sameT_false.2 (fun h=>c2 (by rw [h]))]⟩
  repeat refine so rfl ?_
  refine C_if rfl (fun c3=>?_) (fun c3=>?_)<;>simp only [pL] at c3
  ·repeat (first|refine sc rfl ?_|refine so rfl ?_)
   exact ⟨_,rfl,rfl,by rw [sameT_false.2 (fun h=>c3 (by rw [h]))]⟩
  have hl:a.of.length=b.of.length:=by omega
  repeat (first|refine sc rfl ?_|refine so rfl ?_)
  refine C_loop (fun i:Nat=>⟨[(2,.bp 2 0),(3,.bp 3 0),(29,I64 (a.of.length:Nat)),(30,I64 (i:Nat))],[.box 2 58 (Ty.c a),.box 3 58 (Ty.c b)]⟩) (fun i=>i≤a.of.length∧∀ j,j<i→a.of.getD j default=b.of.getD j default) (fun i=>a.of.length-i) 0 ⟨Nat.zero_le _,fun j hj=>absurd hj (Nat.not_lt_zero _)⟩ (Le.sub [2,3] ⟨rfl,rfl,rfl,rfl,trivial⟩ rfl) ?_
  rintro i ⟨hi,hall⟩
  repeat (first|refine sc rfl ?_|refine so rfl ?_)
  refine C_if rfl (fun m1=>?_) (fun m1=>?_)<;>simp only [pL] at m1
  ·have hil:i<a.of.length:=by omega
   repeat (first|refine sc rfl ?_|refine so rfl ?_)
   refine C_drawD rfl (by kernel_rfl) ?_
   refine sd rfl ?_
   refine sdw (SL 3 Ty.c a.of) rfl rfl rfl (.row (Ty.rows_eq _)) ?_
   refine sd rfl ?_
   refine sd rfl ⟨by omega,?_⟩
   rw [Int.toNat_natCast]
   refine sd rfl ?_
   refine sd rfl ?_
   refine sdw (SL 3 Ty.c b.of) rfl rfl rfl (.row (Ty.rows_eq _)) ?_
   refine sd rfl ?_
   refine sd rfl ⟨by omega,?_⟩
   rw [Int.toNat_natCast]
   refine sd rfl ?_
   refine D_call (hrec i hil) rfl rfl rfl rfl ?_
   repeat refine sd rfl ?_
   repeat refine sc rfl ?_
   cases hs:sameT (a.of.getD i default) (b.of.getD i default) with
   | true =>
    refine C_false rfl rfl ?_
    repeat (first|refine sc rfl ?_|refine so rfl ?_)
    rw [w64 (x:=(i:Int)+1) (by omega) (by omega)]
    refine ⟨i+1,⟨hil,fun j hj=>?_⟩,by omega,Le.sub [2,3] ⟨rfl,rfl,rfl,rfl,trivial⟩ rfl⟩
    by_cases hji:j<i
    ·exact hall j hji
    ·obtain rfl:j=i:=by omega
     exact sameT_true.1 hs
   | false =>
    refine C_true rfl rfl ?_
    repeat (first|refine sc rfl ?_|refine so rfl ?_)
    exact ⟨_,rfl,rfl,by rw [sameT_false.2 (fun h=>(sameT_false.1 hs) (by rw [h]))]⟩
  ·obtain rfl:i=a.of.length:=by omega
   repeat (first|refine sc rfl ?_|refine so rfl ?_)
   exact ⟨_,rfl,rfl,by rw [sameT_true.2 (ty_ext c1 c2 hl hall)]⟩
theorem optional_c (f:Fld):FnP Tryz.prog 88 [.agg (Fld.c f)] (·=B (decide (f.ty.kind=9))):=by
 refine fnP Tryz.func88 fun X=>?_
 repeat (first|refine sc rfl ?_|refine so rfl ?_)
 exact ⟨_,rfl,rfl,rfl⟩

theorem FnA.conv {P:Program} {f:FuncId} {args:List AV} {cs:List Abs} {p q:AV→List Abs→Prop} (h:FnA P f args cs p) (hpq:∀ r c,p r c→∃ r',q r' c∧∀ G y,RepI G r y→RepI G r' y):FnA P f args cs q :=
 ⟨h.1,fun G w c h1 h2 h3=>(h.2 G w c h1 h2 h3).mono fun e w' ⟨r,cr,cs',G',k,k1,k2,rest⟩=>by
  obtain ⟨r',q1,q2⟩:=hpq r cs' k
  exact ⟨r',cr,cs',G',q1,k1,q2 _ _ k2,rest⟩⟩

def fldJ (R:List Fld) (t:Int):Fld:=(R.find? (fun f=>f.tag == t)).getD default
def hasJ (R:List Fld) (t:Int):Bool:=(R.find? (fun f=>f.tag == t)).isSome
theorem DRow_F (b:Nat) (l:List Dcl) (hP:Prep l) (hW:WellL l) (nm:List UInt8) (tag:Int):FnA Tryz.prog 30 [PT b 0,.s nm,I64 tag] [dscS b l] (fun r cs'=>r=.tup [.agg (Fld.c (fldJ (rowsU l nm) tag)),B (hasJ (rowsU l nm) tag)]∧cs'=[dscS b l]):=by
 refine FnA.conv (DRow_S b l hP hW nm tag) (fun r c h=>?_)
 obtain ⟨rfl,rfl⟩:=h
 refine ⟨_,⟨rfl,rfl⟩,fun G y h=>?_⟩
 unfold rowV at h
 unfold fldJ hasJ
 cases hf:(rowsU l nm).find? (fun f=>f.tag == tag) with
 | some g=>rw [hf] at h;exact h
 | none =>
  rw [hf] at h
  simp only [Option.getD_none,Option.isSome_none]
  simp only [RepI,RepIT] at h ⊢
  obtain ⟨ys,hy,h⟩:=h
  refine ⟨ys,hy,?_⟩
  obtain ⟨z,zs,e1,⟨zz,e2,e3⟩,e4⟩:=h
  refine ⟨z,zs,e1,⟨zz,e2,?_⟩,e4⟩
  show RepIL G [I64 0,.s [],I64 0,.s [],.sl 0 3 (Ty.rows [])] zz.toList
  simp only [RepIL] at e3 ⊢
  obtain ⟨a1,b1,c1,d1,o1,a2,b2,c2,d2,o2,a3,b3,c3,d3,o3,a4,b4,c4,d4,o4,a5,b5,c5,d5,o5,e5⟩:=e3
  exact ⟨a1,b1,c1,d1,o1,a2,b2,c2,d2,o2,a3,b3,c3,d3,o3,a4,b4,c4,d4,o4,a5,b5,c5,repI_nil (by simpa only [RepI] using d5),o5,e5⟩
end Go.Proofs

namespace Go.Sy
open Go.RowKit

def FnT (P:Program) (f:FuncId) (args:List AV) (cs:List Abs) (post:AV→List Abs→Prop) (thr:AV→List Abs→Prop):Prop :=
 Callable P f∧∀ (G:IM) (w:World) (cargs:List Value),ImOK G w→RepIT G args cargs→AbsOK G w cs →
  Calls P f cargs.toArray w fun en w'=>∃ x v cs' G',(post x cs'∧en=.returned v∨thr x cs'∧en=.panicked [{ v:=v,recovered:=false }])∧RepI G' x v∧TrA G w cs G' w' cs'

def FnThrow (P:Program) (f:FuncId) (args:List AV) (cs:List Abs) (thr:AV→List Abs→Prop):Prop :=
 Callable P f∧∀ (G:IM) (w:World) (cargs:List Value),ImOK G w→RepIT G args cargs→AbsOK G w cs →
  Calls P f cargs.toArray w fun en w'=>∃ x v cs' G',thr x cs'∧en=.panicked [{ v:=v,recovered:=false }]∧RepI G' x v∧TrA G w cs G' w' cs'

theorem FnT.toA {P:Program} {f:FuncId} {args:List AV} {cs:List Abs} {post thr:AV→List Abs→Prop} (h:FnT P f args cs post thr) (hn:∀ x cs',¬ thr x cs'):FnA P f args cs post:=by
 refine ⟨h.1,fun G w c h1 h2 h3=>(h.2 G w c h1 h2 h3).mono ?_⟩
 rintro en w' ⟨x,v,cs',G',(⟨hp,he⟩|⟨ht,_⟩),hr,a1,a2,a3,a4,a5,a6⟩
 ·exact ⟨x,v,cs',G',hp,he,hr,a1,a2,a3,a4,a5,a6⟩
 ·exact absurd ht (hn x cs')
theorem FnT.toThrow {P:Program} {f:FuncId} {args:List AV} {cs:List Abs} {post thr:AV→List Abs→Prop} (h:FnT P f args cs post thr) (hn:∀ x cs',¬ post x cs'):FnThrow P f args cs thr:=by
 refine ⟨h.1,fun G w c h1 h2 h3=>(h.2 G w c h1 h2 h3).mono ?_⟩
 rintro en w' ⟨x,v,cs',G',(⟨hp,_⟩|⟨ht,he⟩),hr⟩
 ·exact absurd hp (hn x cs')
 ·exact ⟨x,v,cs',G',ht,he,hr⟩
theorem FnThrow.mono {P:Program} {f:FuncId} {args:List AV} {cs:List Abs} {thr thr':AV→List Abs→Prop} (h:FnThrow P f args cs thr) (ht:∀ x c,thr x c→thr' x c):FnThrow P f args cs thr':=by
 refine ⟨h.1,fun G w c h1 h2 h3=>(h.2 G w c h1 h2 h3).mono ?_⟩
 rintro en w' ⟨x,v,cs',G',hh,hr⟩
 exact ⟨x,v,cs',G',ht _ _ hh,hr⟩

section
variable {P:Program} {T:Tab} {X:Ctx P T} {n:Nat} {e:Env} {st:St} {a:Act} {w:World} {ops:Array Oper} {K:St→Prop}

def PanX (X:Ctx P T) (n:Nat) (st:St) (x:AV):Prop:=∀ e a w v,Rel X n e st a w→RepI e.G x v→X.pan [{ v:=v,recovered:=false }] a w

def PanOK (X:Ctx P T) (thr:AV→List Abs→Prop):Prop:=∀ (n:Nat) (st:St) (x:AV) (cs:List Abs) (rest:List Ch),st.c.Perm (cs.map Ch.abs++rest)→thr x cs→PanX X n st x

theorem Rel.trA {st:St} (r:Rel X n e st a w) {cs:List Abs} {rest:List Ch} (hp:st.c.Perm (cs.map Ch.abs++rest)) {bs:List Abs} (hbs:X.bs=blocks bs):TrA X.G0 X.w0 bs e.G w cs:=by
 obtain ⟨q1,q2⟩:=(r.heap.perm hp).absOK
 rw [hbs] at q2
 exact ⟨r.le,⟨by rw [← hbs];exact r.new,by rw [← hbs];exact r.newm⟩,⟨r.im,r.mz⟩,q1,q2,r.os,r.tape,r.output,r.sz,fun k hk hnin hs=>r.keep k hk (by rw [hbs];exact hnin) hs⟩

theorem FnT.intro (ok:TabOK P T) (wide:P.follows .mixedOrders=true) {f:FuncId} {fn:Func} {c:Code} {args:List AV} {cs:List Abs} {post thr:AV→List Abs→Prop} (hf:P.funcs[f]?=some fn) (hb:fn.body=some c)
  (hn : (fn.name == "runtime.NumGoroutine") = false) (hargs : Nat.ble args.length fn.ntmps = true)
  (h:∀ X:Ctx P T,PanOK X thr→SymC X fn.ntmps c ⟨enumA 0 args,cs.map Ch.abs⟩ (EndsX T fn.results post)):FnT P f args cs post thr:=by
 refine ⟨⟨fn,hf,by simp [hb],hn⟩,?_⟩
 intro G w cargs him hrep hcs
 have hargs:=Nat.le_of_ble_eq_true hargs
 refine calls_of_wp hf hb ?_
 let X:Ctx P T:=⟨ok,wide,w,G,blocks cs,fun _=>0,fun ch _ w'=>∃ x v cs' G',thr x cs'∧ch=[{ v:=v,recovered:=false }]∧RepI G' x v∧TrA G w cs G' w' cs',[]⟩
 let e:Env:=⟨G,fun _=>0,fun _=>undef⟩
 have hheap:HeapOK X e w (cs.map Ch.abs):=by
  refine ⟨cs.map (fun A=>(Ch.abs A,A.bs)),by simp [Function.comp_def],?_,by rw [flat_abs];exact hcs.2.1,?_⟩
  ·intro p hp
   obtain ⟨A,hA,rfl⟩:=List.mem_map.1 hp
   exact ⟨rfl,hcs.1 A hA⟩
  ·rw [flat_abs]
   intro b hb
   exact ⟨(hcs.2.2 b hb).1,.inr hb,(hcs.2.2 b hb).2⟩
 have r:Rel X fn.ntmps e ⟨enumA 0 args,cs.map Ch.abs⟩ { tmps:=cargs.toArray++Array.replicate (fn.ntmps-cargs.toArray.size) undef,defers:=[] } w :=
  Rel.enter rfl rfl him (RepIT.toRep (e:=e) args hrep) hargs hheap rfl
 have hpan:PanOK X thr:=fun n' st' x cs' rest hp ht e' a' w' v hr hv=>⟨x,v,cs',e'.G,ht,rfl,hv,hr.trA hp rfl⟩
 refine Code.wp_mono (fun ex a' w' hc=>?_) (h X hpan e _ w r)
 have fin:∀ (e':Env) (st':St),Rel X fn.ntmps e' st' a' w'→(∃ r cs rest,resA T st' fn.results.toList=some r∧st'.c.Perm (cs.map Ch.abs++rest)∧r.imm=true∧post r cs) →
   a'.defers=[]∧∃ v,(results fn a'.tmps).run P w'=.ok v w'∧(∃ x cv cs' G',(post x cs'∧Ending.returned v=.returned cv∨thr x cs'∧Ending.returned v=.panicked [{ v:=cv,recovered:=false }])∧RepI G' x cv∧TrA G w cs G' w' cs'):=by
  intro e' st' hr ⟨x,cs',rest,h1,hk,h2,h3⟩
  obtain ⟨v,h5,h6⟩:=resA_sound hr h1
  exact ⟨hr.defers,v,h5,x,v,cs',e'.G,.inl ⟨h3,rfl⟩,Rep.toI x h2 h6,hr.trA hk rfl⟩
 cases ex with
 | normal=>obtain ⟨e',st',h1,h2⟩:=hc;exact fin e' st' h1 h2
 | ret=>obtain ⟨e',st',h1,h2⟩:=hc;exact fin e' st' h1 h2
 | exit id=>obtain ⟨e',st',h1,h2⟩:=hc;exact h2.elim
 | goto l=>obtain ⟨e',st',h1,h2⟩:=hc;exact h2.elim
 | panic ch =>
  obtain ⟨hd,x,v,cs',G',ht,rfl,hv,htr⟩:=hc
  exact ⟨hd,x,v,cs',G',.inr ⟨ht,rfl⟩,hv,htr⟩
 | outgrown=>exact hc.elim

def voidRP:RP:={ R:=fun _ _=>False,mono:=fun _ _ h=>h,one:=fun h=>h.elim }
abbrev VOID:AV:=.p voidRP

theorem O_throw (is:List Nat) {f:FuncId} {dst:Option Nat} {args:Array Operand} {tys:Array TypeId} {ty:TypeId} {pos:String} {aft:Array Edge} {gd:Option (Nat×Bool)} {rest:List Oper} {avs:List AV} {cs:List Abs} {cr:List Ch} {thr:AV→List Abs→Prop}
  {s:List (Nat×AV)} {c:List Ch} (hf:FnThrow P f avs cs thr) (hg:guardA ops ⟨s,c⟩ ⟨dst,.call ⟨.value (.func f),args,tys⟩,ty,pos,aft,gd⟩=some true) (ha:opds s args.toList=some avs) (himm:AV.imm.immL avs=true)
  (hp:pickA is c=some (cs,cr)) (hpan:∀ x cs',thr x cs'→PanX X n ⟨s,cs'.map Ch.abs++cr⟩ x) :
  SymO X n ops (⟨dst,.call ⟨.value (.func f),args,tys⟩,ty,pos,aft,gd⟩::rest) ⟨s,c⟩ K:=by
 intro e a w Q r hq
 unfold wpList
 rw [if_pos (guardA_sound r hg)]
 refine .inl ?_
 unfold Oper.wp
 rw [run_call hf.1 a.eval rfl w,Oper.upon_enter]
 have h1:=RepT.toI avs himm (opds_sound r ha)
 rw [map_eval]
 have hperm:=pickA_perm hp
 have hd2:=(r.heap.perm hperm).absOK
 refine (hf.2 e.G w _ ⟨r.im,r.mz⟩ h1 hd2.1).mono ?_
 rintro en w' ⟨y,v,cs',G',ht,rfl,hv,g2,g3,g4,g5,g6,o1,o2,o3,o4,o5⟩
 have r2:=r.swapAbs (st:=⟨s,c⟩) hperm g2 g4 g3 g5 g6 ⟨o1,o2,o3⟩ o4 o5
 exact Q.2 _ _ _ r.defers (hpan y cs' ht _ _ _ v r2 hv)

theorem O_panic {x:Operand} {t:TypeId} {y:AV} {dst:Option Nat} {ty:TypeId} {pos:String} {aft:Array Edge} {gd:Option (Nat×Bool)} {rest:List Oper} {s:List (Nat×AV)} {c:List Ch}
  (hg:guardA ops ⟨s,c⟩ ⟨dst,.panic x,ty,pos,aft,gd⟩=some true) (hx:opd s x=some (.ifc t y)) (hi:y.imm=true) (hpan:PanX X n ⟨s,c⟩ (.ifc t y)) :
  SymO X n ops (⟨dst,.panic x,ty,pos,aft,gd⟩::rest) ⟨s,c⟩ K:=by
 intro e a w Q r hq
 unfold wpList
 rw [if_pos (guardA_sound r hg)]
 refine .inl ?_
 have h1:=opd_sound r hx
 simp only [Rep] at h1
 obtain ⟨v,hv,hr⟩:=h1
 have hrun:(execOp a.eval ⟨dst,.panic x,ty,pos,aft,gd⟩).run P w=.halt (.panic (.iface t v)) w:=by
  simp only [execOp,hv]
  rfl
 unfold Oper.wp
 rw [hrun,Oper.upon_panic]
 exact Q.2 _ _ _ r.defers (hpan _ _ _ _ r (by simp only [RepI];exact ⟨v,rfl,Rep.toI y hi hr⟩))

theorem X_ifc {p:Pl} {t:TypeId} {dsc:TypeDesc} {x:Operand} {y:AV} {d:Option Nat} {ty:TypeId} {pos:String} {aft:Array Edge} {gd:Option (Nat×Bool)} {j:Nat} {Si:List (Nat×AV)} {c:List Ch}
  (hu:P.underlying t=some dsc) (hni:∀ ms,dsc≠.interface ms)
  (hg:guardA ops ⟨Si,c⟩ ⟨d,.makeInterface t x,ty,pos,aft,gd⟩=some true) (hx:opd Si x=some y) (hd:dstOK n d=true) :
  StepX X n ops p Si c c j ⟨d,.makeInterface t x,ty,pos,aft,gd⟩ (.ifc t y) :=
 StepX.val hg hd (fun e a w S r r'=>by
  have h1:=opd_sound r' hx
  refine ⟨.iface t (a.eval x),w,e,?_,r,by simp only [Rep];exact ⟨_,rfl,h1⟩⟩
  have hun:(underlying t:Sem TypeDesc).run P w=.ok dsc w:=by simp [underlying,hu]
  simp only [execOp,Instr.makeInterface,Sem.run_bind,hun,Result.andThen_ok]
  cases dsc<;>first|rfl|exact absurd rfl (hni _))
end
end Go.Sy

namespace Go.Sy
open Go.RowKit

section
variable {P:Program} {T:Tab} {X:Ctx P T} {n:Nat} {e:Env} {st:St} {a:Act} {w:World} {ops:Array Oper} {K:St→Prop}

end
end Go.Sy

namespace Go.Sy
open Go.RowKit

section
variable {P:Program} {T:Tab} {X:Ctx P T} {n:Nat} {e:Env} {st:St} {a:Act} {w:World} {ops:Array Oper} {K:St→Prop}

end
end Go.Sy

namespace Go.Sy
open Go.RowKit Go.MapKept
section
variable {P:Program} {T:Tab} {X:Ctx P T} {n:Nat} {ops:Array Oper}

end
end Go.Sy

namespace Go.Sy
open Go.RowKit
section
variable {P:Program} {T:Tab} {X:Ctx P T} {n:Nat} {e:Env} {st:St} {a:Act} {w:World} {ops:Array Oper} {K:St→Prop}

theorem X_callK (is:List Nat) {p:Pl} {f:FuncId} {dst:Nat} {args:Array Operand} {tys:Array TypeId} {ty:TypeId} {pos:String} {aft:Array Edge} {gd:Option (Nat×Bool)} {j:Nat} {avs:List AV} {cs:List Abs} {cr:List Ch} {x:AV}
  {Si:List (Nat×AV)} {c:List Ch} (hf:FnA P f avs cs (fun r cs'=>r=x∧cs'=cs)) (hg:guardA ops ⟨Si,c⟩ ⟨some dst,.call ⟨.value (.func f),args,tys⟩,ty,pos,aft,gd⟩=some true) (ha:opds Si args.toList=some avs) (himm:AV.imm.immL avs=true)
  (hp:pickA is c=some (cs,cr)) (hd:Nat.blt dst n=true) :
  StepX X n ops p Si c c j ⟨some dst,.call ⟨.value (.func f),args,tys⟩,ty,pos,aft,gd⟩ x :=
 (X_callA is hf hg ha himm hp hd).perm (pickA_perm hp).symm

def Invokes (P:Program) (t:TypeId) (name:String) (f:FuncId):Prop:=∀ (v:Value) (args:Array Value) (w:World),(callMethod (.iface t v) name args).run P w=.ok (.enter f (#[v]++args)) w

theorem run_invoke {t:TypeId} {name:String} {f:FuncId} (hm:Invokes P t name f) {dst:Option Tmp} {x:Operand} {args:Array Operand} {tys:Array TypeId} {ty:TypeId} {pos:String} {aft:Array Edge} {gd:Option (Nat×Bool)} (ρ:Operand→Value)
  {v:Value} (hρ:ρ x=.iface t v) (w:World) :
  (execOp ρ ⟨dst,.call ⟨.invoke x name,args,tys⟩,ty,pos,aft,gd⟩).run P w=.ok (.enter f (#[v]++args.map ρ)) w:=by
 simp only [execOp,resolve,hρ,Sem.run_bind,Sem.run_pure,Result.andThen_ok,invoke]
 have h1:(args.map ρ).extract 0 args.size=args.map ρ:=by
  apply Array.ext'
  simp [List.take_of_length_le]
 have h3:=hm v (args.map ρ) w
 have h0:(#[Value.iface t v]++args.map ρ)[0]?=some (Value.iface t v):=by
  rw [Array.getElem?_append_left (show 0<1 by omega)]
  rfl
 split
 ·rename_i recv heq
  have he:some recv=some (Value.iface t v):=heq.symm.trans h0
  cases he
  simpa [h1] using h3
 ·rename_i hne
  exact absurd h0 (hne _)

theorem O_invoke (is:List Nat) {t:TypeId} {name:String} {y:AV} {f:FuncId} {xo:Operand} {dst:Nat} {args:Array Operand} {tys:Array TypeId} {ty:TypeId} {pos:String} {aft:Array Edge} {gd:Option (Nat×Bool)} {rest:List Oper} {avs:List AV} {cs:List Abs} {cr:List Ch} {post:AV→List Abs→Prop}
  {s:List (Nat×AV)} {c:List Ch} (hm:Invokes P t name f) (hf:FnA P f (y::avs) cs post) (hxo:opd s xo=some (.ifc t y))
  (hg:guardA ops ⟨s,c⟩ ⟨some dst,.call ⟨.invoke xo name,args,tys⟩,ty,pos,aft,gd⟩=some true) (ha:opds s args.toList=some avs) (himm:AV.imm.immL (y::avs)=true)
  (hp:pickA is c=some (cs,cr)) (hd:Nat.blt dst n=true)
  (k:∀ r cs',post r cs'→SymO X n ops rest ⟨(dst,r)::s,cs'.map Ch.abs++cr⟩ K) :
  SymO X n ops (⟨some dst,.call ⟨.invoke xo name,args,tys⟩,ty,pos,aft,gd⟩::rest) ⟨s,c⟩ K:=by
 intro e a w Q r hq
 unfold wpList
 rw [if_pos (guardA_sound r hg)]
 refine .inl ?_
 unfold Oper.wp
 have hi2:y.imm=true∧AV.imm.immL avs=true:=by simpa [AV.imm.immL] using himm
 have hx:=opd_sound r hxo
 simp only [Rep] at hx
 obtain ⟨v,hv,hr⟩:=hx
 rw [run_invoke hm a.eval hv w,Oper.upon_enter]
 have h1:RepIT e.G (y::avs) (v::args.toList.map a.eval):=by
  have h2:=RepT.toI avs hi2.2 (opds_sound r ha)
  simp only [RepIT]
  exact ⟨v,_,rfl,Rep.toI y hi2.1 hr,h2⟩
 have harr:#[v]++args.map a.eval=(v::args.toList.map a.eval).toArray:=by
  apply Array.ext';simp
 rw [harr]
 refine (call_after (ops:=ops) (Q:=Q) hf r h1 (pickA_perm hp) hd k hq).mono ?_
 rintro en w' ⟨cv,rfl,h⟩
 exact h

theorem run_equalIn_ifc {t:TypeId} {ms:Array (String×TypeId)} (h:P.underlying t=some (.interface ms)) (tt:TypeId) (v:Value) (w:World) (d:Nat):(Op.equalIn (d+1) t (.iface tt v) .nilIface).run P w=.ok false w:=by
 simp [Op.equalIn,run_underlying h]
theorem run_equal_ifc {t:TypeId} {ms:Array (String×TypeId)} (h:P.underlying t=some (.interface ms)) (tt:TypeId) (v:Value) (w:World):(Op.equal t (.iface tt v) .nilIface).run P w=.ok false w:=run_equalIn_ifc h tt v w 9999
theorem run_equalIn_nilifc {t:TypeId} {ms:Array (String×TypeId)} (h:P.underlying t=some (.interface ms)) (w:World) (d:Nat):(Op.equalIn (d+1) t .nilIface .nilIface).run P w=.ok true w:=by
 simp [Op.equalIn,run_underlying h]
theorem run_equal_nilifc {t:TypeId} {ms:Array (String×TypeId)} (h:P.underlying t=some (.interface ms)) (w:World):(Op.equal t .nilIface .nilIface).run P w=.ok true w:=run_equalIn_nilifc h w 9999
theorem X_ifcnil {p:Pl} {t:TypeId} {ms:Array (String×TypeId)} {x:Operand} {tt:TypeId} {y:AV} {d:Option Nat} {uy ty:TypeId} {pos:String} {aft:Array Edge} {gd:Option (Nat×Bool)} {j:Nat} {Si:List (Nat×AV)} {c:List Ch} (hm:P.underlying t=some (.interface ms))
  (hg:guardA ops ⟨Si,c⟩ ⟨d,.binOp .eql t x (.const .nilIface) uy,ty,pos,aft,gd⟩=some true) (hx:opd Si x=some (.ifc tt y)) (hd:dstOK n d=true) :
  StepX X n ops p Si c c j ⟨d,.binOp .eql t x (.const .nilIface) uy,ty,pos,aft,gd⟩ (B false) :=
 StepX.val hg hd (fun e a w S r r'=>by
  have h1:=opd_sound r' hx
  simp only [Rep] at h1
  obtain ⟨v,hv,_⟩:=h1
  have hgd:(eqGuard .eql t x (.const .nilIface) (.iface tt v) .nilIface).run P w=.ok () w:=rfl
  have hbin:(binOp .eql t (.iface tt v) .nilIface).run P w=((Op.equal t (.iface tt v) .nilIface).run P w).andThen fun b w=>.ok (.bool b) w:=by
   simp [binOp,Sem.run_bind]
  refine ⟨.bool false,w,e,?_,r,by simp [Rep]⟩
  have hc:a.eval (.const .nilIface)=.nilIface:=rfl
  simp only [execOp,hv,hc,Sem.run_bind,hgd,Result.andThen_ok,hbin,run_equal_ifc hm,Sem.run_pure])
theorem X_nilifcnil {p:Pl} {t:TypeId} {ms:Array (String×TypeId)} {x:Operand} {d:Option Nat} {uy ty:TypeId} {pos:String} {aft:Array Edge} {gd:Option (Nat×Bool)} {j:Nat} {Si:List (Nat×AV)} {c:List Ch} (hm:P.underlying t=some (.interface ms))
  (hg:guardA ops ⟨Si,c⟩ ⟨d,.binOp .eql t x (.const .nilIface) uy,ty,pos,aft,gd⟩=some true) (hx:opd Si x=some (.v .nilIface)) (hd:dstOK n d=true) :
  StepX X n ops p Si c c j ⟨d,.binOp .eql t x (.const .nilIface) uy,ty,pos,aft,gd⟩ (B true) :=
 StepX.val hg hd (fun e a w S r r'=>by
  have h1:=opd_sound r' hx
  simp only [Rep] at h1
  have hgd:(eqGuard .eql t x (.const .nilIface) .nilIface .nilIface).run P w=.ok () w:=by
   unfold eqGuard
   cases x<;>rfl
  have hbin:(binOp .eql t .nilIface .nilIface).run P w=((Op.equal t .nilIface .nilIface).run P w).andThen fun b w=>.ok (.bool b) w:=by
   simp [binOp,Sem.run_bind]
  refine ⟨.bool true,w,e,?_,r,by simp [Rep]⟩
  have hc:a.eval (.const .nilIface)=.nilIface:=rfl
  simp only [execOp,h1,hc,Sem.run_bind,hgd,Result.andThen_ok,hbin,run_equal_nilifc hm,Sem.run_pure])
end
end Go.Sy

namespace Go.Sy
open Go.RowKit Go.MapKept

theorem perm_map_inv {α β:Type} {f:α→β} {l1 l2:List β} (h:l1.Perm l2):∀ es:List α,l1=es.map f→∃ es':List α,l2=es'.map f∧es'.Perm es:=by
 induction h with
 | nil=>intro es h;exact ⟨[],rfl,by cases es with|nil=>exact .refl _|cons _ _=>simp at h⟩
 | cons x _ ih =>
  intro es h
  cases es with
  | nil=>simp at h
  | cons e es =>
   simp only [List.map_cons,List.cons.injEq] at h
   obtain ⟨es',h1,h2⟩:=ih es h.2
   exact ⟨e::es',by simp [h.1,h1],h2.cons e⟩
 | swap x y l =>
  intro es h
  match es,h with
  | [],h=>simp at h
  | [_],h=>simp at h
  | e1::e2::es,h =>
   simp only [List.map_cons,List.cons.injEq] at h
   exact ⟨e2::e1::es,by simp [h.1,h.2.1,h.2.2],.swap _ _ _⟩
 | trans _ _ ih1 ih2 =>
  intro es h
  obtain ⟨es1,h1,h2⟩:=ih1 es h
  obtain ⟨es2,h3,h4⟩:=ih2 es1 h1
  exact ⟨es2,h3,h4.trans h2⟩

def lkN (k:Int):List (Int×Int)→Option Int
 | []=>none
 | (j,y)::r=>if j=k then some y else lkN k r
theorem lkN_mem {k y:Int}:∀ {es:List (Int×Int)},lkN k es=some y→(k,y)∈es
 | [],h=>by simp [lkN] at h
 | (j,z)::r,h=>by
  simp only [lkN] at h
  split at h
  ·rename_i hj;cases h;subst hj;exact List.mem_cons_self
  ·exact List.mem_cons_of_mem _ (lkN_mem h)
theorem lkN_none {k:Int}:∀ {es:List (Int×Int)},lkN k es=none↔k∉es.map (·.1)
 | []=>by simp [lkN]
 | (j,z)::r=>by
  simp only [lkN,List.map_cons,List.mem_cons,not_or]
  split
  ·rename_i hj;simp [hj]
  ·rename_i hj
   rw [lkN_none]
   exact ⟨fun h=>⟨fun e=>hj e.symm,h⟩,fun h=>h.2⟩
theorem lkN_of {k y:Int}:∀ {es:List (Int×Int)},(es.map (·.1)).Nodup→(k,y)∈es→lkN k es=some y
 | [],_,h=>by cases h
 | (j,z)::r,hn,h=>by
  simp only [List.map_cons,List.nodup_cons] at hn
  simp only [lkN]
  rcases List.mem_cons.1 h with h|h
  ·cases h;rw [if_pos rfl]
  ·rw [if_neg]
   ·exact lkN_of hn.2 h
   ·intro e;subst e
    exact hn.1 (List.mem_map.2 ⟨(j,y),h,rfl⟩)
theorem lkN_perm {k:Int} {es es':List (Int×Int)} (hp:es'.Perm es) (hn:(es.map (·.1)).Nodup):lkN k es'=lkN k es:=by
 have hn':(es'.map (·.1)).Nodup:=(hp.map _).nodup_iff.2 hn
 cases h:lkN k es with
 | none=>rw [lkN_none] at h ⊢;rw [(hp.map _).mem_iff];exact h
 | some y=>exact lkN_of hn' (hp.mem_iff.2 (lkN_mem h))
theorem lookE_lkN (k:Int):∀ es:List (Int×Int),lookE k (es.map fun q=>(q.1,I64 q.2))=(lkN k es).map I64
 | []=>rfl
 | (j,y)::r=>by
  simp only [List.map_cons,lookE,lkN]
  split
  ·rfl
  ·exact lookE_lkN k r

abbrev MPC (d:Nat) (es:List (Int×Int)):Ch:=.mapc d (es.map fun q=>.int .i64 q.1) (es.map fun q=>I64 q.2)
theorem mpc_zip:∀ es:List (Int×Int),(es.map fun q=>Value.int .i64 q.1).zip ((es.map fun q=>I64 q.2).map vOf)=es.map fun q=>(Value.int .i64 q.1,Value.int .i64 q.2)
 | []=>rfl
 | q::es=>by simp only [List.map_cons,List.zip_cons_cons,mpc_zip es];rfl

section
variable {P:Program} {T:Tab} {X:Ctx P T} {n:Nat} {e:Env} {st:St} {a:Act} {w:World} {ops:Array Oper} {K:St→Prop}

theorem Rel.allocC (r : Rel X n e st a w) {d : Nat} (hd : Nat.blt d n = true) (hf : freshS d st.s = true) (hc : freshC d st.c = true) :
    Rel X n { e with μ := upd e.μ d w.heap.size } ⟨(d, .mp d) :: st.s, MPC d [] :: st.c⟩ (a.put (some d) (.map (some w.heap.size))) (w.alloc (.map #[] 0)) := by
  have hid : ∀ (k : Nat), k ≠ d → upd e.μ d w.heap.size k = e.μ k := fun k hk => by simp [upd, hk]
  have hnod : ∀ {x : AV}, x.no d = true → ∀ j, x.no j = false → j ≠ d := fun hx j hj he => by subst he; rw [hx] at hj; cases hj
  have hGlt : ∀ b o v, e.G b o = some v → b < w.heap.size := fun b o v h => by
    have := block_lt_of_cell (r.im b o v h); exact this
  have r1 : Rel X n { e with μ := upd e.μ d w.heap.size } ⟨st.s, MPC d [] :: st.c⟩ a (w.alloc (.map #[] 0)) :=
    { defers := r.defers
      size := r.size
      slots := fun i x h => by
        obtain ⟨v, h1, h2⟩ := r.slots i x h
        exact ⟨v, h1, Rep.mono (e := e) (f := { e with μ := upd e.μ d w.heap.size }) (IM.le_refl _) x (fun j hj => ⟨hid j (hnod (freshS_get hf i x h) j hj), rfl⟩) h2⟩
      im := fun b o v h => by
        have h1 := r.im b o v h
        have h2 := hGlt b o v h
        simp only [World.cell?] at h1 ⊢
        rw [Go.heap_alloc_old w _ h2]
        exact h1
      heap := by
        refine HeapOK.push r.heap (IM.le_refl _) (fun c hcm j hj => ⟨hid j ?_, rfl⟩) (fun b hb => Go.heap_alloc_old w _ hb) (bs' := [w.heap.size]) ?_ (by simp) (by simp) ?_ (by simp) (fun b _ h => h)
        · intro he; subst he; rw [freshC_mem hc c hcm] at hj; cases hj
        · refine ⟨by simp [upd], #[], 0, ?_, by simp, by simp, by simp⟩
          simp only [upd, if_true]; exact (MapKept.heap_alloc w _).1
        · intro b hb
          simp only [List.mem_singleton] at hb
          subst hb
          exact ⟨by simp, .inl r.sz, r.free (Nat.le_refl _)⟩
      mz := r.mzKeep (fun b hb _ => Go.heap_alloc_old w _ hb)
      newm := r.newm
      le := r.le
      new := r.new
      os := r.os
      tape := r.tape
      output := r.output
      sz := by have := r.sz; simp; omega
      keep := fun b hb hbs hs => by rw [Go.heap_alloc_old w _ (by have := r.sz; omega)]; exact r.keep b hb hbs hs
      fix := fun k hk => by rw [show ({ e with μ := upd e.μ d w.heap.size } : Env).μ k = e.μ k from hid k (by simp [Nat.blt] at hd; omega)]; exact r.fix k hk }
  exact r1.put (d := d) (x := .mp d) (v := .map (some w.heap.size)) hd (by simp [Rep, upd])

theorem Rel.turnC (r:Rel X n e st a w) {k:Nat} {ks ks':List Value} {xs xs':List AV} {rest:List Ch} {arr':Array MapEntry} {cl':Nat} (hk:takeCh k st.c=some (.mapc k ks xs,rest))
  (h1:(arr'.toList.map fun en=>(en.key,en.val)).Perm (ks'.zip (xs'.map vOf))) (h2:(arr'.toList.map (·.born)).Nodup) (h3:∀ x∈arr'.toList,x.born<cl') :
  Rel X n e ⟨st.s,.mapc k ks' xs'::rest⟩ a { w with heap:=w.heap.setIfInBounds (e.μ k) (.map arr' cl') }:=by
 have hh:=r.heap.perm (takeCh_perm hk)
 obtain ⟨bs,⟨hbs,arr,cl,g1,g2⟩,_,hgood⟩:=hh.head
 have hlt:e.μ k<w.heap.size:=(Array.getElem?_eq_some_iff.1 g1).1
 have hother:∀ b,b≠e.μ k→(w.heap.setIfInBounds (e.μ k) (.map arr' cl'))[b]?=w.heap[b]?:=fun b hb=>by simp [Ne.symm hb]
 have hGk:e.G.free (e.μ k):=(hgood (e.μ k) (by rw [hbs];simp)).2.2
 refine { r with defers:=r.defers,size:=r.size,slots:=r.slots,im:=?_,mz:=r.mzKeep (fun b _ hb=>hother b (fun he=>hb (by rw [he];exact hGk))),heap:=?_,os:=r.os,tape:=r.tape,output:=r.output,sz:=by simpa using r.sz,keep:=?_ }
 ·intro b oo v h
  have hne:b≠e.μ k:=fun he=>by subst he;rw [hGk.1 oo] at h;cases h
  have h1:=r.im b oo v h
  simp only [World.cell?] at h1 ⊢
  rw [hother b hne]
  exact h1
 ·refine HeapOK.update hh (IM.le_refl _) (fun _ _ _ _=>⟨rfl,rfl⟩) ?_ (by simp) (fun _ _ _ h=>h)
  intro bs' hc hnd hg
  obtain ⟨rfl,_⟩:=hc
  refine ⟨fun b _ hb=>hother b (by simpa using hb),[e.μ k],⟨rfl,arr',cl',by simp [hlt],h1,h2,h3⟩,by simp,fun b hb=>.inl hb,fun b hb=>?_⟩
  obtain ⟨q1,q2,q3⟩:=hg b hb
  exact ⟨by simpa using q1,q2,q3⟩
 ·intro b hb hbs' hs
  have hne:b≠e.μ k:=by
   intro he
   subst he
   rcases (hgood (e.μ k) (by rw [hbs];simp)).2.1 with h|h
   ·omega
   ·exact hbs' h
  show (w.heap.setIfInBounds (e.μ k) (.map arr' cl'))[b]?=_
  rw [hother b hne]
  exact r.keep b hb hbs' hs

theorem X_makeMapC {p:Pl} {mt:TypeId} {d:Nat} {ty:TypeId} {pos:String} {aft:Array Edge} {gd:Option (Nat×Bool)} {j:Nat} {Si:List (Nat×AV)} {c:List Ch}
  (hg:guardA ops ⟨Si,c⟩ ⟨some d,.makeMap mt none,ty,pos,aft,gd⟩=some true) (hd:Nat.blt d n=true) (hcre:(j,d)∈p.cre) (hc:freshC d c=true) (hki:p.ki=[]) :
  StepX X n ops p Si c (MPC d []::c) j ⟨some d,.makeMap mt none,ty,pos,aft,gd⟩ (.mp d):=by
 intro e a w S K Q r hS hcr hk
 have r0:Rel X n e ⟨Si,c⟩ a w:=r.less hS (fun h=>h)
 rw [if_pos (guardA_sound r0 hg)]
 have hfree:∀ k y,get S k=some y→y.no d=true:=fun k y h=>hcr k y h (j,d) hcre rfl
 have r1:Rel X n e ⟨S.filter fun q=>q.2.no d,c⟩ a w:=r.less (fun k y h=>get_unfilter hfree h) (fun h=>h)
 have r2:=r1.allocC hd (freshS_filter d S) hc
 have hrun:(execOp a.eval ⟨some d,.makeMap mt none,ty,pos,aft,gd⟩).run P w=.ok (.value (.map (some w.heap.size))) (w.alloc (.map #[] 0)):=rfl
 refine .inl ?_
 unfold Oper.wp
 rw [hrun]
 refine hk _ _ _ _ r2 ⟨?_,?_,?_⟩
 ·rintro d' h'
  cases h'
  rw [get_cons,if_pos rfl]
 ·intro k y hne hy _
  rw [get_cons,if_neg (fun h=>hne (by rw [h]))]
  exact get_filter hy (hfree k y hy)
 ·intro k y hy
  rw [get_cons] at hy
  by_cases h:d=k
  ·rw [if_pos h] at hy;cases hy;exact .inl ⟨by rw [h],rfl⟩
  ·rw [if_neg h] at hy;exact .inr (.inl (get_unfilter hfree hy))

theorem chunk_list {w:World} {d:Nat} {es:List (Int×Int)} {bs:List Nat} (h:ChOK e w (MPC d es) bs):∃ (arr:Array MapEntry) (cl:Nat) (es':List (Int×Int)),w.heap[e.μ d]?=some (.map arr cl)∧arr.toList.map (fun en=>(en.key,en.val))=es'.map (fun q=>(Value.int .i64 q.1,Value.int .i64 q.2))∧es'.Perm es∧(arr.toList.map (·.born)).Nodup∧∀ x∈arr.toList,x.born<cl:=by
 obtain ⟨_,arr,cl,g1,g2,g3,g4⟩:=h
 rw [mpc_zip] at g2
 obtain ⟨es',h1,h2⟩:=perm_map_inv g2.symm es rfl
 exact ⟨arr,cl,es',g1,h1,h2,g3,g4⟩
theorem pair_lists {arr:List MapEntry} {es:List (Int×Int)} (h:arr.map (fun en=>(en.key,en.val))=es.map (fun q=>(Value.int .i64 q.1,Value.int .i64 q.2))) (G:IM) :
  arr.map (·.key)=(es.map fun q=>(q.1,I64 q.2)).map (fun q=>Value.int .i64 q.1)∧RepIT G ((es.map fun q=>(q.1,I64 q.2)).map (·.2)) (arr.map (·.val)):=by
 induction arr generalizing es with
 | nil=>cases es with
  | nil=>simp [RepIT]
  | cons _ _=>simp at h
 | cons x arr ih=>cases es with
  | nil=>simp at h
  | cons q es =>
   simp only [List.map_cons,List.cons.injEq,Prod.mk.injEq] at h
   obtain ⟨h1,h2⟩:=ih h.2
   simp only [List.map_cons,RepIT,h.1.1,h1,List.cons.injEq,true_and]
   exact ⟨_,_,⟨rfl,rfl⟩,by rw [h.1.2];simp only [RepI],h2⟩

theorem X_insC {p:Pl} {kt et mt:TypeId} {d:Nat} {i v:Int} {es es2:List (Int×Int)} {m x y:Operand} {ty:TypeId} {pos:String} {aft:Array Edge} {gd:Option (Nat×Bool)} {j:Nat} {Si:List (Nat×AV)} {c cr:List Ch}
  (hm:P.underlying mt=some (.map kt et)) (hkt:P.underlying kt=some (.int .i64))
  (hg:guardA ops ⟨Si,c⟩ ⟨none,.insert mt m x y,ty,pos,aft,gd⟩=some true) (hmo:opd Si m=some (.mp d)) (hx:opd Si x=some (I64 i)) (hy:opd Si y=some (I64 v)) (hp:takeCh d c=some (MPC d es,cr)) (hn:i∉es.map (·.1)) (hes:es2.Perm ((i,v)::es)) :
  StepX X n ops p Si c (MPC d es2::cr) j ⟨none,.insert mt m x y,ty,pos,aft,gd⟩ .bad :=
 StepX.skip hg rfl (fun e a w S r r'=>by
  have h1:=opd_sound r' hmo
  have h2:=opd_sound r' hx
  have h3:=opd_sound r' hy
  simp only [Rep] at h1 h2 h3
  have hh:=r.heap.perm (takeCh_perm hp)
  obtain ⟨bs,hch,_,_⟩:=hh.head
  obtain ⟨arr,cl,es',g1,g2,g3,g4,g5⟩:=chunk_list hch
  obtain ⟨q1,q2⟩:=pair_lists g2 e.G
  have hlk:lookE i (es'.map fun q=>(q.1,I64 q.2))=none:=by
   rw [lookE_lkN,Option.map_eq_none_iff,lkN_none,(g3.map _).mem_iff]
   exact hn
  rcases find_map (intKey (P:=P) hkt) e.G i arr.toList _ 0 q1 q2 with ⟨f1,f2⟩|⟨jj,en,xx,f1,f2,f3,f4,f5,f6⟩
  ·have hf:=run_findKey (w:=w) (intKey (P:=P) hkt).hd f1
   have hrun:(Instr.mapUpdate mt (.map (some (e.μ d))) (.int .i64 i) (.int .i64 v)).run P w=.ok () { w with heap:=w.heap.setIfInBounds (e.μ d) (.map (arr.push ⟨.int .i64 i,.int .i64 v,cl⟩) (cl+1)) }:=by
    have hf':(Instr.findKey kt (.int .i64 i) arr.toList).run P w=.ok none w:=hf
    have hck:∀ b,(Instr.checkKey b 10000 kt (.int .i64 i)).run P w=.ok () w:=fun b=>run_checkKey (intKey (P:=P) hkt).hd ((intKey (P:=P) hkt).ik i) b 9999
    simp [Instr.mapUpdate,run_underlying hm,MapKept.run_getObj_map g1,hck,hf',MapKept.run_setObj_map _ g1]
   refine ⟨_,e,by simp only [execOp,h1,h2,h3,Sem.run_bind,hrun,Result.andThen_ok,Sem.run_pure];rfl,r.turnC (st:=⟨S,c⟩) hp ?_ ?_ ?_⟩
   ·rw [mpc_zip]
    have e1:(arr.push ⟨.int .i64 i,.int .i64 v,cl⟩).toList.map (fun en=>(en.key,en.val))=(es'++[(i,v)]).map (fun q=>(Value.int .i64 q.1,Value.int .i64 q.2)):=by
     simp only [Array.toList_push,List.map_append,g2,List.map_cons,List.map_nil]
    rw [e1]
    refine List.Perm.map _ ?_
    exact (List.perm_append_comm (l₁:=es') (l₂:=[(i,v)])).trans ((g3.cons _).trans hes.symm)
   ·simp only [Array.toList_push,List.map_append,List.map_cons,List.map_nil]
    refine List.nodup_append.2 ⟨g4,by simp,?_⟩
    intro u hu v hv
    simp only [List.mem_singleton] at hv
    subst hv
    obtain ⟨xx,hxx,rfl⟩:=List.mem_map.1 hu
    exact Nat.ne_of_lt (g5 xx hxx)
   ·intro xx hxx
    simp only [Array.toList_push,List.mem_append,List.mem_singleton] at hxx
    rcases hxx with hxx|rfl
    ·exact Nat.lt_succ_of_lt (g5 xx hxx)
    ·exact Nat.lt_succ_self _
  ·rw [hlk] at f4;cases f4)

theorem X_lookC {p:Pl} {kt et mt:TypeId} {d:Nat} {i:Int} {es:List (Int×Int)} {m x:Operand} {dst:Option Nat} {pi:TypeInfo} {ty:TypeId} {pos:String} {aft:Array Edge} {gd:Option (Nat×Bool)} {j:Nat} {Si:List (Nat×AV)} {c cr:List Ch}
  (hm:P.underlying mt=some (.map kt et)) (hkt:P.underlying kt=some (.int .i64)) (hpi:P.info? et=some pi) (hz:pi.zero=some (.int .i64 0))
  (hg:guardA ops ⟨Si,c⟩ ⟨dst,.lookup mt m x false,ty,pos,aft,gd⟩=some true) (hmo:opd Si m=some (.mp d)) (hx:opd Si x=some (I64 i)) (hp:takeCh d c=some (MPC d es,cr)) (hn:(es.map (·.1)).Nodup) (hd:dstOK n dst=true) :
  StepX X n ops p Si c c j ⟨dst,.lookup mt m x false,ty,pos,aft,gd⟩ (I64 ((lkN i es).getD 0)) :=
 StepX.val hg hd (fun e a w S r r'=>by
  have h1:=opd_sound r' hmo
  have h2:=opd_sound r' hx
  simp only [Rep] at h1 h2
  have hh:=r.heap.perm (takeCh_perm hp)
  obtain ⟨bs,hch,_,_⟩:=hh.head
  obtain ⟨arr,cl,es',g1,g2,g3,g4,g5⟩:=chunk_list hch
  obtain ⟨q1,q2⟩:=pair_lists g2 e.G
  have hlk:lookE i (es'.map fun q=>(q.1,I64 q.2))=(lkN i es).map I64:=by
   rw [lookE_lkN,lkN_perm g3 hn]
  have hzero:(zeroValue et).run P w=.ok (.int .i64 0) w:=by simp [zeroValue,typeInfo,hpi,hz]
  have hck:∀ b,(Instr.checkKey b 10000 kt (.int .i64 i)).run P w=.ok () w:=fun b=>run_checkKey (intKey (P:=P) hkt).hd ((intKey (P:=P) hkt).ik i) b 9999
  rcases find_map (intKey (P:=P) hkt) e.G i arr.toList _ 0 q1 q2 with ⟨f1,f2⟩|⟨jj,en,xx,f1,f2,f3,f4,f5,f6⟩
  ·have hf:(Instr.findKey kt (.int .i64 i) arr.toList).run P w=.ok none w:=run_findKey (w:=w) (intKey (P:=P) hkt).hd f1
   rw [hlk] at f2
   have hno:lkN i es=none:=Option.map_eq_none_iff.1 f2
   refine ⟨.int .i64 0,w,e,?_,r,by rw [hno];simp [Rep]⟩
   have hl:(Instr.lookup mt (.map (some (e.μ d))) (.int .i64 i) false).run P w=.ok (.int .i64 0) w:=by
    simp [Instr.lookup,run_underlying hm,MapKept.run_getObj_map g1,hck,hf,hzero]
   simp only [execOp,h1,h2,Sem.run_bind,hl,Result.andThen_ok,Sem.run_pure]
  ·have hf:(Instr.findKey kt (.int .i64 i) arr.toList).run P w=.ok (some (0+jj,en.val)) w:=run_findKey (w:=w) (intKey (P:=P) hkt).hd f1
   rw [hlk] at f4
   obtain ⟨z,hz1,rfl⟩:=Option.map_eq_some_iff.1 f4
   simp only [RepI] at f5
   refine ⟨en.val,w,e,?_,r,by rw [hz1,f5];simp [Rep]⟩
   have hl:(Instr.lookup mt (.map (some (e.μ d))) (.int .i64 i) false).run P w=.ok en.val w:=by
    simp [Instr.lookup,run_underlying hm,MapKept.run_getObj_map g1,hck,hf]
   simp only [execOp,h1,h2,Sem.run_bind,hl,Result.andThen_ok,Sem.run_pure])
end
end Go.Sy

namespace Go.Proofs
open Go.Sy Go.Lib

noncomputable def DKind_F (l:List Dcl) (nm:List UInt8):Option Int:=some (kindL l nm)
theorem DKind_w (b:Nat) (l:List Dcl) (hP:Prep l) (hW:WellL l) (nm:List UInt8) (r:Int) (h:DKind_F l nm=some r):FnA Tryz.prog 22 [PT b 0,.s nm] [dscS b l] (fun x cs'=>x=I64 r∧cs'=[dscS b l]):=by
 obtain rfl:=osi h
 exact DKind_S b l hP nm
noncomputable def DRow_F2 (l:List Dcl) (nm:List UInt8) (tag:Int):Option (Fld×Bool):=some (fldJ (rowsU l nm) tag,hasJ (rowsU l nm) tag)
theorem DRow_w (b:Nat) (l:List Dcl) (hP:Prep l) (hW:WellL l) (nm:List UInt8) (tag:Int) (r:Fld×Bool) (h:DRow_F2 l nm tag=some r):FnA Tryz.prog 30 [PT b 0,.s nm,I64 tag] [dscS b l] (fun x cs'=>x=.tup [.agg (Fld.c r.1),B r.2]∧cs'=[dscS b l]):=by
 obtain rfl:=osi h
 exact DRow_F b l hP hW nm tag
noncomputable def DRows_F (l:List Dcl) (nm:List UInt8):Option (List Fld):=some (rowsU l nm)
theorem DRows_w (b:Nat) (l:List Dcl) (hP:Prep l) (hW:WellL l) (nm:List UInt8) (r:List Fld) (h:DRows_F l nm=some r):FnA Tryz.prog 29 [PT b 0,.s nm] [dscS b l] (fun x cs'=>x=SL 5 Fld.c r∧cs'=[dscS b l]):=by
 obtain rfl:=osi h
 exact DRows_S b l hP hW nm
end Go.Proofs

namespace Go.Proofs
open Go.Sy Go.Lib

noncomputable def FEach_L1 (l:List Dcl) (rec:Ty→Val→Option (Int)) (t:Ty) (vs:List Val) (s1:Int):Option ((Int) ⊕ ((Int) ⊕ (Unit))) :=
 cond (decide (s1<(vs.length:Int))) (chk ((0:Int)≤s1∧s1<(vs.length:Int)) (Option.bind (rec t (vs.getD (Int.toNat s1) default)) (fun r9=>cond (r9 != 0) (some (Sum.inr ((Sum.inl r9)))) (some (Sum.inl (IntKind.i64.wrap (s1+1))))))) (some (Sum.inr ((Sum.inr ()))))
noncomputable def FEach_F (l:List Dcl) (rec:Ty→Val→Option (Int)) (t:Ty) (vs:List Val):Option (Int) :=
 Option.bind (Iter (FEach_L1 l rec t vs) 0) (Sum.elim (fun c13=>some c13) (fun b6=>some 0))
theorem FEach_w (b:Nat) (l:List Dcl) (hP:Prep l) (hW:WellL l) (rec:Ty→Val→Option (Int)) (t:Ty) (vs:List Val) (r:Int) (hrec:∀ t v r,rec t v=some r→FnA Tryz.prog 44 [.cp [PT b 0],.agg (Ty.c t),.agg (Val.c v)] [dscS b l] (fun x cs'=>x=I64 r∧cs'=[dscS b l])) (h:FEach_F l rec t vs=some r):FnA Tryz.prog 121 [.cp [PT b 0],.agg (Ty.c t),SL 5 Val.c vs] [dscS b l] (fun x cs'=>x=I64 r∧cs'=[dscS b l]):=by
 unfold FEach_F at h
 refine fnA Tryz.func121 fun X=>?_
 iterate 2 refine sc rfl ?_
 refine so rfl ?_
 refine O_le _ (Le.freezebox 4 rfl rfl rfl) ?_
 refine so rfl ?_
 refine so rfl ?_
 iterate 3 refine sc rfl ?_
 iterate 3 refine so rfl ?_
 refine so rfl ?_
 obtain ⟨o2,ho2,h⟩:=bT h
 refine C_joinP ((fun b6:Unit=>(⟨[],[.abs (dscS b l)]⟩:St)) (match o2 with|(.inl b6)=>default|(.inr b6)=>b6)) (∃ b,o2=(.inr b)) ?_ (fun s hs hp=>?_)
 ·refine sc rfl ?_
  refine C_iter (fun s1:Int=>⟨[(0,.cp [PT b 0]),(4,.cp [I64 t.kind,.s t.name,.sl t.of.length 3 (Ty.rows t.of)]),(10,SL 5 Val.c vs),(11,I64 (vs.length:Int)),(12,I64 s1)],[.abs (dscS b l)]⟩) ho2 (Le.sub [1000000] ⟨rfl,rfl,rfl,rfl,rfl,trivial⟩ rfl) (fun s1 y3 hy4 hr5=>?_)
  unfold FEach_L1 at hy4
  iterate 2 refine sc rfl ?_
  refine so rfl ?_
  refine so rfl ?_
  refine sc rfl ?_
  refine C_if rfl (fun hb7=>?_) (fun hb7=>?_)
  ·replace hy4:=cT hb7 hy4
   iterate 5 refine sc rfl ?_
   obtain ⟨g8,hy4⟩:=gT hy4
   refine so rfl (And.intro g8 ?_)
   refine so rfl ?_
   iterate 2 refine so rfl ?_
   refine O_le _ (Le.freezebox 8 rfl rfl rfl) ?_
   refine so rfl ?_
   iterate 2 refine sc rfl ?_
   iterate 2 refine so rfl ?_
   refine so rfl ?_
   obtain ⟨r9,hr10,hy4⟩:=bT hy4
   refine O_cA [0] (hrec _ _ _ hr10) ?_
   rintro q11 cs' ⟨rfl,rfl⟩
   refine so rfl ?_
   refine so rfl ?_
   iterate 2 refine sc rfl ?_
   iterate 2 refine so rfl ?_
   refine so rfl ?_
   refine C_if rfl (fun hb12=>?_) (fun hb12=>?_)
   ·replace hy4:=cT hb12 hy4
    iterate 2 refine sc rfl ?_
    iterate 2 refine so rfl ?_
    refine so rfl ?_
    refine sc rfl ?_
    obtain rfl:=osi hy4
    have ho22:=hr5 _ rfl
    subst ho22
    obtain rfl:=osi h
    exact ⟨_,[_],_,rfl,pickA_perm (is:=[0]) (As:=[_]) rfl,rfl,rfl,rfl⟩
   ·replace hy4:=cF hb12 hy4
    iterate 2 refine sc rfl ?_
    iterate 2 refine so rfl ?_
    refine so rfl ?_
    obtain rfl:=osi hy4
    exact ⟨_,rfl,Le.sub [1000000] ⟨rfl,rfl,rfl,rfl,rfl,trivial⟩ rfl⟩
  ·replace hy4:=cF hb7 hy4
   refine sc rfl ?_
   obtain rfl:=osi hy4
   have ho22:=hr5 _ rfl
   subst ho22
   exact ⟨Le.sub [1000000] trivial rfl,⟨_,rfl⟩⟩
 obtain ⟨b6,rfl⟩:=hp
 refine C_le ⟨[],[.abs (dscS b l)]⟩ hs ?_
 iterate 2 refine sc rfl ?_
 refine so rfl ?_
 refine so rfl ?_
 refine sc rfl ?_
 obtain rfl:=osi h
 exact ⟨_,[_],_,rfl,pickA_perm (is:=[0]) (As:=[_]) rfl,rfl,rfl,rfl⟩
noncomputable def FRows_L1 (l:List Dcl) (rec:Ty→Val→Option (Int)) (t:Ty) (v:Val) (s1:Int):Option ((Int) ⊕ ((Int) ⊕ (Unit))) :=
 cond (decide (s1<(v.tags.length:Int))) (chk ((0:Int)≤s1∧s1<(v.tags.length:Int)) (Option.bind (DRow_F2 l t.name (v.tags.getD (Int.toNat s1) default)) (fun r9=>cond (!r9.2) (some (Sum.inr ((Sum.inl 9)))) (chk ((0:Int)≤s1∧s1<(v.items.length:Int)) (Option.bind (rec r9.1.ty (v.items.getD (Int.toNat s1) default)) (fun r13=>cond (r13 != 0) (some (Sum.inr ((Sum.inl r13)))) (some (Sum.inl (IntKind.i64.wrap (s1+1)))))))))) (some (Sum.inr ((Sum.inr ()))))
noncomputable def FRows_F (l:List Dcl) (rec:Ty→Val→Option (Int)) (t:Ty) (v:Val):Option (Int) :=
 Option.bind (Iter (FRows_L1 l rec t v) 0) (Sum.elim (fun c16=>some c16) (fun b6=>some 0))
theorem FRows_w (b:Nat) (l:List Dcl) (hP:Prep l) (hW:WellL l) (rec:Ty→Val→Option (Int)) (t:Ty) (v:Val) (r:Int) (hrec:∀ t v r,rec t v=some r→FnA Tryz.prog 44 [.cp [PT b 0],.agg (Ty.c t),.agg (Val.c v)] [dscS b l] (fun x cs'=>x=I64 r∧cs'=[dscS b l])) (h:FRows_F l rec t v=some r):FnA Tryz.prog 122 [.cp [PT b 0],.agg (Ty.c t),.agg (Val.c v)] [dscS b l] (fun x cs'=>x=I64 r∧cs'=[dscS b l]):=by
 unfold FRows_F at h
 refine fnA Tryz.func122 fun X=>?_
 iterate 2 refine sc rfl ?_
 refine so rfl ?_
 refine O_le _ (Le.freezebox 4 rfl rfl rfl) ?_
 refine so rfl ?_
 refine O_le _ (Le.freezebox 5 rfl rfl rfl) ?_
 refine so rfl ?_
 refine so rfl ?_
 iterate 3 refine sc rfl ?_
 iterate 4 refine so rfl ?_
 refine so rfl ?_
 obtain ⟨o2,ho2,h⟩:=bT h
 refine C_joinP ((fun b6:Unit=>(⟨[],[.abs (dscS b l)]⟩:St)) (match o2 with|(.inl b6)=>default|(.inr b6)=>b6)) (∃ b,o2=(.inr b)) ?_ (fun s hs hp=>?_)
 ·refine sc rfl ?_
  refine C_iter (fun s1:Int=>⟨[(0,.cp [PT b 0]),(4,.cp [I64 t.kind,.s t.name,.sl t.of.length 3 (Ty.rows t.of)]),(5,.cp [I64 v.kind,I64 v.num,.s v.text,SL 1 INTc v.tags,.sl v.items.length 5 (Val.rows v.items)]),(13,SL 1 INTc v.tags),(14,I64 (v.tags.length:Int)),(15,I64 s1)],[.abs (dscS b l)]⟩) ho2 (Le.sub [1000000] ⟨rfl,rfl,rfl,rfl,rfl,rfl,trivial⟩ rfl) (fun s1 y3 hy4 hr5=>?_)
  unfold FRows_L1 at hy4
  iterate 2 refine sc rfl ?_
  refine so rfl ?_
  refine so rfl ?_
  refine sc rfl ?_
  refine C_if rfl (fun hb7=>?_) (fun hb7=>?_)
  ·replace hy4:=cT hb7 hy4
   iterate 5 refine sc rfl ?_
   refine so rfl ?_
   obtain ⟨g8,hy4⟩:=gT hy4
   refine so rfl (And.intro g8 ?_)
   iterate 3 refine so rfl ?_
   refine so rfl ?_
   refine sc rfl ?_
   obtain ⟨r9,hr10,hy4⟩:=bT hy4
   refine C_drawM (⟨[[],[],[],[],[],[],[],[],[],[],[],[],[0,1,2,3,4,5,6,7,8,9,11],[]],[11,12],[(11,9)],[]⟩:Pl) (fun L=>((bif L 11 then [.box 9 60 (bif L 12 then [I64 r9.1.tag,.s r9.1.name,I64 r9.1.ty.kind,.s r9.1.ty.name,.sl r9.1.ty.of.length 3 (Ty.rows r9.1.ty.of)] else [I64 0,.s [],I64 0,.s [],NIL])] else [])++[.abs (dscS b l)]:List Ch)) rfl (by kernel_rfl) (fun L L' h=>by show ((bif L 11 then [.box 9 60 (bif L 12 then [I64 r9.1.tag,.s r9.1.name,I64 r9.1.ty.kind,.s r9.1.ty.name,.sl r9.1.ty.of.length 3 (Ty.rows r9.1.ty.of)] else [I64 0,.s [],I64 0,.s [],NIL])] else [])++[.abs (dscS b l)]:List Ch)=((bif L' 11 then [.box 9 60 (bif L' 12 then [I64 r9.1.tag,.s r9.1.name,I64 r9.1.ty.kind,.s r9.1.ty.name,.sl r9.1.ty.of.length 3 (Ty.rows r9.1.ty.of)] else [I64 0,.s [],I64 0,.s [],NIL])] else [])++[.abs (dscS b l)]:List Ch);rw [h 11 (by decide),h 12 (by decide)]) rfl ?_
   refine sm rfl ⟨trivial,?_⟩
   refine sm rfl ⟨trivial,?_⟩
   refine sm rfl ⟨trivial,?_⟩
   refine sm rfl ⟨trivial,?_⟩
   refine sm rfl ⟨trivial,?_⟩
   refine sm rfl ⟨trivial,?_⟩
   refine sm rfl ⟨trivial,?_⟩
   refine SM (.tup [.agg (Fld.c r9.1),B r9.2]) rfl (fun L h1 h2 h3=>?_) ?_
   ·show StepX _ _ _ _ _ ((bif L 11 then [.box 9 60 (bif L 12 then [I64 r9.1.tag,.s r9.1.name,I64 r9.1.ty.kind,.s r9.1.ty.name,.sl r9.1.ty.of.length 3 (Ty.rows r9.1.ty.of)] else [I64 0,.s [],I64 0,.s [],NIL])] else [])++[.abs (dscS b l)]:List Ch) ((bif L 11 then [.box 9 60 (bif L 12 then [I64 r9.1.tag,.s r9.1.name,I64 r9.1.ty.kind,.s r9.1.ty.name,.sl r9.1.ty.of.length 3 (Ty.rows r9.1.ty.of)] else [I64 0,.s [],I64 0,.s [],NIL])] else [])++[.abs (dscS b l)]:List Ch) _ _ _
    cases L 11<;>cases L 12<;>first|exact X_callK [0] (DRow_w b l hP hW _ _ _ hr10) rfl rfl rfl rfl rfl|exact X_callK [1] (DRow_w b l hP hW _ _ _ hr10) rfl rfl rfl rfl rfl
   refine sm rfl ⟨trivial,?_⟩
   refine sm rfl ⟨trivial,?_⟩
   refine sm rfl ⟨trivial,?_⟩
   refine SM (.bp 9 0) rfl (fun L h1 h2 h3=>?_) ?_
   ·show StepX _ _ _ _ _ ((bif L 11 then [.box 9 60 (bif L 12 then [I64 r9.1.tag,.s r9.1.name,I64 r9.1.ty.kind,.s r9.1.ty.name,.sl r9.1.ty.of.length 3 (Ty.rows r9.1.ty.of)] else [I64 0,.s [],I64 0,.s [],NIL])] else [])++[.abs (dscS b l)]:List Ch) ((bif true then [.box 9 60 (bif (L 12) then [I64 r9.1.tag,.s r9.1.name,I64 r9.1.ty.kind,.s r9.1.ty.name,.sl r9.1.ty.of.length 3 (Ty.rows r9.1.ty.of)] else [I64 0,.s [],I64 0,.s [],NIL])] else [])++[.abs (dscS b l)]:List Ch) _ _ _
    rw [show L 11=false from h3,h2 12 (show (11:Nat)∈Pl.anc (⟨[[],[],[],[],[],[],[],[],[],[],[],[],[0,1,2,3,4,5,6,7,8,9,11],[]],[11,12],[(11,9)],[]⟩:Pl) 12 by decide)]
    exact X_alloc rfl rfl rfl rfl (show ((11,9):Nat×Nat)∈Pl.cre (⟨[[],[],[],[],[],[],[],[],[],[],[],[],[0,1,2,3,4,5,6,7,8,9,11],[]],[11,12],[(11,9)],[]⟩:Pl) by decide) rfl rfl rfl
   refine SM .bad rfl (fun L h1 h2 h3=>?_) ?_
   ·show StepX _ _ _ _ _ ((bif L 11 then [.box 9 60 (bif L 12 then [I64 r9.1.tag,.s r9.1.name,I64 r9.1.ty.kind,.s r9.1.ty.name,.sl r9.1.ty.of.length 3 (Ty.rows r9.1.ty.of)] else [I64 0,.s [],I64 0,.s [],NIL])] else [])++[.abs (dscS b l)]:List Ch) ((bif (L 11) then [.box 9 60 (bif true then [I64 r9.1.tag,.s r9.1.name,I64 r9.1.ty.kind,.s r9.1.ty.name,.sl r9.1.ty.of.length 3 (Ty.rows r9.1.ty.of)] else [I64 0,.s [],I64 0,.s [],NIL])] else [])++[.abs (dscS b l)]:List Ch) _ _ _
    rw [show L 12=false from h3,h1 11 (show (11:Nat)∈Pl.anc (⟨[[],[],[],[],[],[],[],[],[],[],[],[],[0,1,2,3,4,5,6,7,8,9,11],[]],[11,12],[(11,9)],[]⟩:Pl) 12 by decide)]
    exact X_storeK rfl rfl rfl rfl rfl rfl rfl rfl rfl
   refine sm rfl ⟨trivial,?_⟩
   refine sm rfl ?_
   show SymC _ _ _ ⟨_,[.box 9 60 [I64 r9.1.tag,.s r9.1.name,I64 r9.1.ty.kind,.s r9.1.ty.name,.sl r9.1.ty.of.length 3 (Ty.rows r9.1.ty.of)],.abs (dscS b l)]⟩ _
   refine C_le _ (Le.freezebox 9 rfl rfl rfl) ?_
   iterate 3 refine sc rfl ?_
   iterate 2 refine so rfl ?_
   refine so rfl ?_
   refine C_if rfl (fun hb11=>?_) (fun hb11=>?_)
   ·replace hy4:=cT hb11 hy4
    iterate 2 refine sc rfl ?_
    refine so rfl ?_
    refine so rfl ?_
    refine sc rfl ?_
    obtain rfl:=osi hy4
    have ho22:=hr5 _ rfl
    subst ho22
    obtain rfl:=osi h
    exact ⟨_,[_],_,rfl,pickA_perm (is:=[0]) (As:=[_]) rfl,rfl,rfl,rfl⟩
   ·replace hy4:=cF hb11 hy4
    iterate 2 refine sc rfl ?_
    refine C_drawD rfl (by kernel_rfl) ?_
    iterate 4 refine sd rfl ?_
    refine sdw (SL 5 Val.c v.items) rfl rfl rfl (.row (Val.rows_eq _)) ?_
    refine sd rfl ?_
    obtain ⟨g12,hy4⟩:=gT hy4
    refine sd rfl (And.intro g12 ?_)
    refine sd rfl ?_
    obtain ⟨r13,hr14,hy4⟩:=bT hy4
    refine D_callA [0] (hrec _ _ _ hr14) rfl rfl rfl rfl rfl ?_
    refine sd rfl ?_
    refine sd rfl ?_
    iterate 2 refine sc rfl ?_
    iterate 2 refine so rfl ?_
    refine so rfl ?_
    refine C_if rfl (fun hb15=>?_) (fun hb15=>?_)
    ·replace hy4:=cT hb15 hy4
     iterate 2 refine sc rfl ?_
     iterate 2 refine so rfl ?_
     refine so rfl ?_
     refine sc rfl ?_
     obtain rfl:=osi hy4
     have ho22:=hr5 _ rfl
     subst ho22
     obtain rfl:=osi h
     exact ⟨_,[_],_,rfl,pickA_perm (is:=[0]) (As:=[_]) rfl,rfl,rfl,rfl⟩
    ·replace hy4:=cF hb15 hy4
     iterate 2 refine sc rfl ?_
     iterate 2 refine so rfl ?_
     refine so rfl ?_
     obtain rfl:=osi hy4
     exact ⟨_,rfl,Le.sub [1000000] ⟨rfl,rfl,rfl,rfl,rfl,rfl,trivial⟩ rfl⟩
  ·replace hy4:=cF hb7 hy4
   refine sc rfl ?_
   obtain rfl:=osi hy4
   have ho22:=hr5 _ rfl
   subst ho22
   exact ⟨Le.sub [1000000] trivial rfl,⟨_,rfl⟩⟩
 obtain ⟨b6,rfl⟩:=hp
 refine C_le ⟨[],[.abs (dscS b l)]⟩ hs ?_
 iterate 2 refine sc rfl ?_
 refine so rfl ?_
 refine so rfl ?_
 refine sc rfl ?_
 obtain rfl:=osi h
 exact ⟨_,[_],_,rfl,pickA_perm (is:=[0]) (As:=[_]) rfl,rfl,rfl,rfl⟩
noncomputable def FWhole_L3 (l:List Dcl) (t:Ty) (v:Val) (r1:List Fld) (s3:Int×Int):Option ((Int×Int) ⊕ ((Int) ⊕ (Unit))) :=
 cond (decide (s3.2<(r1.length:Int))) (chk ((0:Int)≤s3.2∧s3.2<(r1.length:Int)) (cond (decide (s3.1<(v.tags.length:Int))) (chk ((0:Int)≤s3.1∧s3.1<(v.tags.length:Int)) (cond ((v.tags.getD (Int.toNat s3.1) default) == ((r1.getD (Int.toNat s3.2) default).tag)) (some (Sum.inl (IntKind.i64.wrap (s3.1+1),IntKind.i64.wrap (s3.2+1)))) (cond ((((r1.getD (Int.toNat s3.2) default).ty).kind) != 9) (some (Sum.inr ((Sum.inl 12)))) (some (Sum.inl (s3.1,IntKind.i64.wrap (s3.2+1))))))) (cond ((((r1.getD (Int.toNat s3.2) default).ty).kind) != 9) (some (Sum.inr ((Sum.inl 12)))) (some (Sum.inl (s3.1,IntKind.i64.wrap (s3.2+1))))))) (some (Sum.inr ((Sum.inr ()))))
noncomputable def FWhole_F (l:List Dcl) (t:Ty) (v:Val):Option (Int) :=
 Option.bind (DRows_F l t.name) (fun r1=>Option.bind (Iter (FWhole_L3 l t v r1) (0,0)) (Sum.elim (fun c16=>some c16) (fun b8=>some 0)))
theorem FWhole_w (b:Nat) (l:List Dcl) (hP:Prep l) (hW:WellL l) (t:Ty) (v:Val) (r:Int) (h:FWhole_F l t v=some r):FnA Tryz.prog 123 [.cp [PT b 0],.agg (Ty.c t),.agg (Val.c v)] [dscS b l] (fun x cs'=>x=I64 r∧cs'=[dscS b l]):=by
 unfold FWhole_F at h
 refine fnA Tryz.func123 fun X=>?_
 iterate 2 refine sc rfl ?_
 refine so rfl ?_
 refine O_le _ (Le.freezebox 4 rfl rfl rfl) ?_
 refine so rfl ?_
 refine O_le _ (Le.freezebox 5 rfl rfl rfl) ?_
 refine so rfl ?_
 refine so rfl ?_
 iterate 2 refine sc rfl ?_
 refine so rfl ?_
 refine so rfl ?_
 iterate 2 refine sc rfl ?_
 refine C_drawD rfl (by kernel_rfl) ?_
 iterate 6 refine sd rfl ?_
 obtain ⟨r1,hr2,h⟩:=bT h
 refine D_callA [0] (DRows_w b l hP hW _ _ hr2) rfl rfl rfl rfl rfl ?_
 iterate 2 refine sd rfl ?_
 refine sd rfl ?_
 obtain ⟨o4,ho4,h⟩:=bT h
 refine C_joinP ((fun b8:Unit=>(⟨[],[.abs (dscS b l)]⟩:St)) (match o4 with|(.inl b8)=>default|(.inr b8)=>b8)) (∃ b,o4=(.inr b)) ?_ (fun s hs hp=>?_)
 ·refine sc rfl ?_
  refine C_iter (fun s3:Int×Int=>⟨[(5,.cp [I64 v.kind,I64 v.num,.s v.text,SL 1 INTc v.tags,.sl v.items.length 5 (Val.rows v.items)]),(7,I64 s3.1),(17,SL 5 Fld.c r1),(18,I64 (r1.length:Int)),(19,I64 s3.2)],[.abs (dscS b l)]⟩) ho4 (Le.sub [1000000] ⟨rfl,rfl,rfl,rfl,rfl,trivial⟩ rfl) (fun s3 y5 hy6 hr7=>?_)
  unfold FWhole_L3 at hy6
  iterate 2 refine sc rfl ?_
  refine so rfl ?_
  refine so rfl ?_
  refine sc rfl ?_
  refine C_if rfl (fun hb9=>?_) (fun hb9=>?_)
  ·replace hy6:=cT hb9 hy6
   iterate 5 refine sc rfl ?_
   obtain ⟨g10,hy6⟩:=gT hy6
   refine so rfl (And.intro g10 ?_)
   refine so rfl ?_
   iterate 2 refine so rfl ?_
   refine O_le _ (Le.freezebox 9 rfl rfl rfl) ?_
   refine so rfl ?_
   refine sc rfl ?_
   refine C_drawD rfl (by kernel_rfl) ?_
   iterate 6 refine sd rfl ?_
   refine D_case 5 rfl (fun hb11=>?_) (fun hb11=>?_)
   ·replace hy6:=cT hb11 hy6
    iterate 3 refine sd rfl ?_
    obtain ⟨g12,hy6⟩:=gT hy6
    refine sd rfl (And.intro g12 ?_)
    iterate 6 refine sd rfl ?_
    refine sd rfl ?_
    iterate 3 refine sc rfl ?_
    iterate 2 refine so rfl ?_
    refine so rfl ?_
    refine C_if rfl (fun hb13=>?_) (fun hb13=>?_)
    ·replace hy6:=cT hb13 hy6
     refine sc rfl ?_
     iterate 3 refine so rfl ?_
     refine so rfl ?_
     refine sc rfl ?_
     iterate 2 refine so rfl ?_
     refine so rfl ?_
     obtain rfl:=osi hy6
     exact ⟨_,rfl,Le.sub [1000000] ⟨rfl,rfl,rfl,rfl,rfl,trivial⟩ rfl⟩
    ·replace hy6:=cF hb13 hy6
     iterate 2 refine sc rfl ?_
     iterate 5 refine so rfl ?_
     refine so rfl ?_
     refine C_if rfl (fun hb14=>?_) (fun hb14=>?_)
     ·replace hy6:=cT hb14 hy6
      iterate 2 refine sc rfl ?_
      refine so rfl ?_
      refine so rfl ?_
      refine sc rfl ?_
      obtain rfl:=osi hy6
      have ho42:=hr7 _ rfl
      subst ho42
      obtain rfl:=osi h
      exact ⟨_,[_],_,rfl,pickA_perm (is:=[0]) (As:=[_]) rfl,rfl,rfl,rfl⟩
     ·replace hy6:=cF hb14 hy6
      iterate 2 refine sc rfl ?_
      iterate 2 refine so rfl ?_
      refine so rfl ?_
      obtain rfl:=osi hy6
      exact ⟨_,rfl,Le.sub [1000000] ⟨rfl,rfl,rfl,rfl,rfl,trivial⟩ rfl⟩
   ·replace hy6:=cF hb11 hy6
    iterate 10 refine sd rfl ?_
    refine sd rfl ?_
    iterate 3 refine sc rfl ?_
    iterate 2 refine so rfl ?_
    refine so rfl ?_
    refine C_false rfl rfl ?_
    iterate 2 refine sc rfl ?_
    iterate 5 refine so rfl ?_
    refine so rfl ?_
    refine C_if rfl (fun hb15=>?_) (fun hb15=>?_)
    ·replace hy6:=cT hb15 hy6
     iterate 2 refine sc rfl ?_
     refine so rfl ?_
     refine so rfl ?_
     refine sc rfl ?_
     obtain rfl:=osi hy6
     have ho42:=hr7 _ rfl
     subst ho42
     obtain rfl:=osi h
     exact ⟨_,[_],_,rfl,pickA_perm (is:=[0]) (As:=[_]) rfl,rfl,rfl,rfl⟩
    ·replace hy6:=cF hb15 hy6
     iterate 2 refine sc rfl ?_
     iterate 2 refine so rfl ?_
     refine so rfl ?_
     obtain rfl:=osi hy6
     exact ⟨_,rfl,Le.sub [1000000] ⟨rfl,rfl,rfl,rfl,rfl,trivial⟩ rfl⟩
  ·replace hy6:=cF hb9 hy6
   refine sc rfl ?_
   obtain rfl:=osi hy6
   have ho42:=hr7 _ rfl
   subst ho42
   exact ⟨Le.sub [1000000] trivial rfl,⟨_,rfl⟩⟩
 obtain ⟨b8,rfl⟩:=hp
 refine C_le ⟨[],[.abs (dscS b l)]⟩ hs ?_
 iterate 2 refine sc rfl ?_
 refine so rfl ?_
 refine so rfl ?_
 refine sc rfl ?_
 obtain rfl:=osi h
 exact ⟨_,[_],_,rfl,pickA_perm (is:=[0]) (As:=[_]) rfl,rfl,rfl,rfl⟩
noncomputable def FList_L9 (l:List Dcl) (rec:Ty→Val→Option (Int)) (t:Ty) (v:Val) (s9:Int):Option ((Int) ⊕ ((Int) ⊕ (Unit))) :=
 cond (decide (s9<(v.items.length:Int))) (chk ((0:Int)≤s9∧s9<(v.items.length:Int)) (chk ((2:Int)≠0) (chk ((0:Int)≤(Int.tmod s9 2)∧(Int.tmod s9 2)<(t.of.length:Int)) (Option.bind (rec (t.of.getD (Int.toNat (Int.tmod s9 2)) default) (v.items.getD (Int.toNat s9) default)) (fun r19=>cond (r19 != 0) (some (Sum.inr ((Sum.inl r19)))) (some (Sum.inl (IntKind.i64.wrap (s9+1))))))))) (some (Sum.inr ((Sum.inr ()))))
noncomputable def FList_F (l:List Dcl) (rec:Ty→Val→Option (Int)) (t:Ty) (v:Val):Option (Int) :=
 cond (t.kind == 7) (cond ((t.of.length:Int) != 1) (some 8) (cond (v.kind != 7) (some 4) (chk ((0:Int)≤0∧0<(t.of.length:Int)) (Option.bind (FEach_F l rec (t.of.getD (Int.toNat 0) default) v.items) (fun r5=>some r5))))) (cond ((t.of.length:Int) != 2) (some 8) (cond (v.kind != 8) (some 4) (Option.bind (Iter (FList_L9 l rec t v) 0) (Sum.elim (fun c22=>some c22) (fun b14=>some 0)))))
theorem FList_w (b:Nat) (l:List Dcl) (hP:Prep l) (hW:WellL l) (rec:Ty→Val→Option (Int)) (t:Ty) (v:Val) (r:Int) (hrec:∀ t v r,rec t v=some r→FnA Tryz.prog 44 [.cp [PT b 0],.agg (Ty.c t),.agg (Val.c v)] [dscS b l] (fun x cs'=>x=I64 r∧cs'=[dscS b l])) (h:FList_F l rec t v=some r):FnA Tryz.prog 85 [.cp [PT b 0],.agg (Ty.c t),.agg (Val.c v)] [dscS b l] (fun x cs'=>x=I64 r∧cs'=[dscS b l]):=by
 unfold FList_F at h
 refine fnA Tryz.func85 fun X=>?_
 iterate 2 refine sc rfl ?_
 refine so rfl ?_
 refine O_le _ (Le.freezebox 4 rfl rfl rfl) ?_
 refine so rfl ?_
 refine O_le _ (Le.freezebox 5 rfl rfl rfl) ?_
 refine so rfl ?_
 refine so rfl ?_
 iterate 3 refine sc rfl ?_
 iterate 3 refine so rfl ?_
 refine so rfl ?_
 refine C_if rfl (fun hb1=>?_) (fun hb1=>?_)
 ·replace h:=cT hb1 h
  iterate 3 refine sc rfl ?_
  iterate 2 refine so rfl ?_
  refine O_le _ (Le.one 14 (SL 3 Ty.c t.of) rfl (.row (Ty.rows_eq _))) ?_
  iterate 2 refine so rfl ?_
  refine so rfl ?_
  refine C_if rfl (fun hb2=>?_) (fun hb2=>?_)
  ·replace h:=cT hb2 h
   iterate 2 refine sc rfl ?_
   refine so rfl ?_
   refine so rfl ?_
   refine sc rfl ?_
   obtain rfl:=osi h
   exact ⟨_,[_],_,rfl,pickA_perm (is:=[0]) (As:=[_]) rfl,rfl,rfl,rfl⟩
  ·replace h:=cF hb2 h
   iterate 4 refine sc rfl ?_
   iterate 3 refine so rfl ?_
   refine so rfl ?_
   refine C_if rfl (fun hb3=>?_) (fun hb3=>?_)
   ·replace h:=cT hb3 h
    iterate 2 refine sc rfl ?_
    refine so rfl ?_
    refine so rfl ?_
    refine sc rfl ?_
    obtain rfl:=osi h
    exact ⟨_,[_],_,rfl,pickA_perm (is:=[0]) (As:=[_]) rfl,rfl,rfl,rfl⟩
   ·replace h:=cF hb3 h
    iterate 2 refine sc rfl ?_
    refine C_drawD rfl (by kernel_rfl) ?_
    iterate 2 refine sd rfl ?_
    refine sdw (SL 3 Ty.c t.of) rfl rfl rfl (.row (Ty.rows_eq _)) ?_
    obtain ⟨g4,h⟩:=gT h
    refine sd rfl (And.intro g4 ?_)
    iterate 2 refine sd rfl ?_
    refine sdw (SL 5 Val.c v.items) rfl rfl rfl (.row (Val.rows_eq _)) ?_
    obtain ⟨r5,hr6,h⟩:=bT h
    refine D_callA [0] (FEach_w b l hP hW rec _ _ _ hrec hr6) rfl rfl rfl rfl rfl ?_
    refine sd rfl ?_
    refine sd rfl ?_
    refine sc rfl ?_
    obtain rfl:=osi h
    exact ⟨_,[_],_,rfl,pickA_perm (is:=[0]) (As:=[_]) rfl,rfl,rfl,rfl⟩
 ·replace h:=cF hb1 h
  iterate 4 refine sc rfl ?_
  iterate 2 refine so rfl ?_
  refine O_le _ (Le.one 29 (SL 3 Ty.c t.of) rfl (.row (Ty.rows_eq _))) ?_
  iterate 2 refine so rfl ?_
  refine so rfl ?_
  refine C_if rfl (fun hb7=>?_) (fun hb7=>?_)
  ·replace h:=cT hb7 h
   iterate 2 refine sc rfl ?_
   refine so rfl ?_
   refine so rfl ?_
   refine sc rfl ?_
   obtain rfl:=osi h
   exact ⟨_,[_],_,rfl,pickA_perm (is:=[0]) (As:=[_]) rfl,rfl,rfl,rfl⟩
  ·replace h:=cF hb7 h
   iterate 4 refine sc rfl ?_
   iterate 3 refine so rfl ?_
   refine so rfl ?_
   refine C_if rfl (fun hb8=>?_) (fun hb8=>?_)
   ·replace h:=cT hb8 h
    iterate 2 refine sc rfl ?_
    refine so rfl ?_
    refine so rfl ?_
    refine sc rfl ?_
    obtain rfl:=osi h
    exact ⟨_,[_],_,rfl,pickA_perm (is:=[0]) (As:=[_]) rfl,rfl,rfl,rfl⟩
   ·replace h:=cF hb8 h
    iterate 4 refine sc rfl ?_
    iterate 2 refine so rfl ?_
    refine O_le _ (Le.one 36 (SL 5 Val.c v.items) rfl (.row (Val.rows_eq _))) ?_
    iterate 2 refine so rfl ?_
    refine so rfl ?_
    obtain ⟨o10,ho10,h⟩:=bT h
    refine C_joinP ((fun b14:Unit=>(⟨[],[.abs (dscS b l)]⟩:St)) (match o10 with|(.inl b14)=>default|(.inr b14)=>b14)) (∃ b,o10=(.inr b)) ?_ (fun s hs hp=>?_)
    ·refine sc rfl ?_
     refine C_iter (fun s9:Int=>⟨[(0,.cp [PT b 0]),(4,.cp [I64 t.kind,.s t.name,.sl t.of.length 3 (Ty.rows t.of)]),(36,SL 5 Val.c v.items),(37,I64 (v.items.length:Int)),(38,I64 s9)],[.abs (dscS b l)]⟩) ho10 (Le.sub [1000000] ⟨rfl,rfl,rfl,rfl,rfl,trivial⟩ rfl) (fun s9 y11 hy12 hr13=>?_)
     unfold FList_L9 at hy12
     iterate 2 refine sc rfl ?_
     refine so rfl ?_
     refine so rfl ?_
     refine sc rfl ?_
     refine C_if rfl (fun hb15=>?_) (fun hb15=>?_)
     ·replace hy12:=cT hb15 hy12
      iterate 5 refine sc rfl ?_
      refine so rfl ?_
      obtain ⟨g16,hy12⟩:=gT hy12
      refine so rfl (And.intro g16 ?_)
      refine so rfl ?_
      iterate 3 refine so rfl ?_
      refine O_le _ (Le.freezebox 8 rfl rfl rfl) ?_
      refine so rfl ?_
      refine sc rfl ?_
      refine C_drawD rfl (by kernel_rfl) ?_
      iterate 2 refine sd rfl ?_
      refine sdw (SL 3 Ty.c t.of) rfl rfl rfl (.row (Ty.rows_eq _)) ?_
      refine sd rfl ?_
      obtain ⟨g17,hy12⟩:=gT hy12
      refine sd rfl (And.intro g17 ?_)
      obtain ⟨g18,hy12⟩:=gT hy12
      refine sd rfl (And.intro g18 ?_)
      iterate 2 refine sd rfl ?_
      obtain ⟨r19,hr20,hy12⟩:=bT hy12
      refine D_callA [0] (hrec _ _ _ hr20) rfl rfl rfl rfl rfl ?_
      refine sd rfl ?_
      refine sd rfl ?_
      iterate 2 refine sc rfl ?_
      iterate 2 refine so rfl ?_
      refine so rfl ?_
      refine C_if rfl (fun hb21=>?_) (fun hb21=>?_)
      ·replace hy12:=cT hb21 hy12
       iterate 2 refine sc rfl ?_
       iterate 2 refine so rfl ?_
       refine so rfl ?_
       refine sc rfl ?_
       obtain rfl:=osi hy12
       have ho102:=hr13 _ rfl
       subst ho102
       obtain rfl:=osi h
       exact ⟨_,[_],_,rfl,pickA_perm (is:=[0]) (As:=[_]) rfl,rfl,rfl,rfl⟩
      ·replace hy12:=cF hb21 hy12
       iterate 2 refine sc rfl ?_
       iterate 2 refine so rfl ?_
       refine so rfl ?_
       obtain rfl:=osi hy12
       exact ⟨_,rfl,Le.sub [1000000] ⟨rfl,rfl,rfl,rfl,rfl,trivial⟩ rfl⟩
     ·replace hy12:=cF hb15 hy12
      refine sc rfl ?_
      obtain rfl:=osi hy12
      have ho102:=hr13 _ rfl
      subst ho102
      exact ⟨Le.sub [1000000] trivial rfl,⟨_,rfl⟩⟩
    obtain ⟨b14,rfl⟩:=hp
    refine C_le ⟨[],[.abs (dscS b l)]⟩ hs ?_
    iterate 2 refine sc rfl ?_
    refine so rfl ?_
    refine so rfl ?_
    refine sc rfl ?_
    obtain rfl:=osi h
    exact ⟨_,[_],_,rfl,pickA_perm (is:=[0]) (As:=[_]) rfl,rfl,rfl,rfl⟩
end Go.Proofs

namespace Go.Proofs
open Go.Sy Go.Lib

noncomputable def FNamed_F (l:List Dcl) (rec:Ty→Val→Option (Int)) (t:Ty) (v:Val):Option (Int) :=
 Option.bind (DKind_F l t.name) (fun r1=>cond (((lkN r1 [(1,9),(2,10),(3,6)]).getD 0) == 0) (some 8) (cond (v.kind != ((lkN r1 [(1,9),(2,10),(3,6)]).getD 0)) (some 4) (cond (((lkN r1 [(1,9),(2,10),(3,6)]).getD 0) == 6) (Option.bind (DRow_F2 l t.name v.num) (fun r6=>cond (!r6.2) (some 9) (some 0))) (Option.bind (FRows_F l rec t v) (fun r9=>Option.bind (α:=Bool) (cond (r9 != 0) (some true) (some (((lkN r1 [(1,9),(2,10),(3,6)]).getD 0) == 10))) (fun m12=>cond m12 (some r9) (Option.bind (FWhole_F l  t v) (fun r15=>some r15))))))))
theorem FNamed_w (b:Nat) (l:List Dcl) (hP:Prep l) (hW:WellL l) (rec:Ty→Val→Option (Int)) (t:Ty) (v:Val) (r:Int) (hrec:∀ t v r,rec t v=some r→FnA Tryz.prog 44 [.cp [PT b 0],.agg (Ty.c t),.agg (Val.c v)] [dscS b l] (fun x cs'=>x=I64 r∧cs'=[dscS b l])) (h:FNamed_F l rec t v=some r):FnA Tryz.prog 86 [.cp [PT b 0],.agg (Ty.c t),.agg (Val.c v)] [dscS b l] (fun x cs'=>x=I64 r∧cs'=[dscS b l]):=by
 unfold FNamed_F at h
 refine fnA Tryz.func86 fun X=>?_
 iterate 2 refine sc rfl ?_
 refine so rfl ?_
 refine O_le _ (Le.freezebox 4 rfl rfl rfl) ?_
 refine so rfl ?_
 refine O_le _ (Le.freezebox 5 rfl rfl rfl) ?_
 refine so rfl ?_
 refine so rfl ?_
 refine sc rfl ?_
 obtain ⟨r1,hr2,h⟩:=bT h
 refine C_drawM (⟨[[],[0],[0],[0],[0,1,2,3],[],[],[],[],[],[],[],[0,1,2,3],[0,1,2,3]],[0,1,2,3],[(0,11)],[]⟩:Pl) (fun L=>((bif (L 0) then [MPC 11 ((bif (L 1) then [(1,9)] else [])++(bif (L 2) then [(2,10)] else [])++(bif (L 3) then [(3,6)] else []))] else [])++[.abs (dscS b l)]:List Ch)) rfl (by kernel_rfl) (fun L L' h=>by show ((bif (L 0) then [MPC 11 ((bif (L 1) then [(1,9)] else [])++(bif (L 2) then [(2,10)] else [])++(bif (L 3) then [(3,6)] else []))] else [])++[.abs (dscS b l)]:List Ch)=((bif (L' 0) then [MPC 11 ((bif (L' 1) then [(1,9)] else [])++(bif (L' 2) then [(2,10)] else [])++(bif (L' 3) then [(3,6)] else []))] else [])++[.abs (dscS b l)]:List Ch);rw [h 0 (by decide),h 1 (by decide),h 2 (by decide),h 3 (by decide)]) rfl ?_
 refine SM (.mp 11) rfl (fun L h1 h2 h3=>?_) ?_
 ·show StepX _ _ _ _ _ ((bif (L 0) then [MPC 11 ((bif (L 1) then [(1,9)] else [])++(bif (L 2) then [(2,10)] else [])++(bif (L 3) then [(3,6)] else []))] else [])++[.abs (dscS b l)]:List Ch) ((bif true then [MPC 11 ((bif (L 1) then [(1,9)] else [])++(bif (L 2) then [(2,10)] else [])++(bif (L 3) then [(3,6)] else []))] else [])++[.abs (dscS b l)]:List Ch) _ _ _
  rw [show L 0=false from h3,h2 1 (show (0:Nat)∈Pl.anc (⟨[[],[0],[0],[0],[0,1,2,3],[],[],[],[],[],[],[],[0,1,2,3],[0,1,2,3]],[0,1,2,3],[(0,11)],[]⟩:Pl) 1 by decide),h2 2 (show (0:Nat)∈Pl.anc (⟨[[],[0],[0],[0],[0,1,2,3],[],[],[],[],[],[],[],[0,1,2,3],[0,1,2,3]],[0,1,2,3],[(0,11)],[]⟩:Pl) 2 by decide),h2 3 (show (0:Nat)∈Pl.anc (⟨[[],[0],[0],[0],[0,1,2,3],[],[],[],[],[],[],[],[0,1,2,3],[0,1,2,3]],[0,1,2,3],[(0,11)],[]⟩:Pl) 3 by decide)]
  exact X_makeMapC rfl rfl (show ((0,11):Nat×Nat)∈Pl.cre (⟨[[],[0],[0],[0],[0,1,2,3],[],[],[],[],[],[],[],[0,1,2,3],[0,1,2,3]],[0,1,2,3],[(0,11)],[]⟩:Pl) by decide) rfl rfl
 refine SM .bad rfl (fun L h1 h2 h3=>?_) ?_
 ·show StepX _ _ _ _ _ ((bif (L 0) then [MPC 11 ((bif (L 1) then [(1,9)] else [])++(bif (L 2) then [(2,10)] else [])++(bif (L 3) then [(3,6)] else []))] else [])++[.abs (dscS b l)]:List Ch) ((bif (L 0) then [MPC 11 ((bif true then [(1,9)] else [])++(bif (L 2) then [(2,10)] else [])++(bif (L 3) then [(3,6)] else []))] else [])++[.abs (dscS b l)]:List Ch) _ _ _
  rw [show L 1=false from h3,h1 0 (show (0:Nat)∈Pl.anc (⟨[[],[0],[0],[0],[0,1,2,3],[],[],[],[],[],[],[],[0,1,2,3],[0,1,2,3]],[0,1,2,3],[(0,11)],[]⟩:Pl) 1 by decide)]
  cases L 2<;>cases L 3<;>exact X_insC Tryz.underlying204 Tryz.underlying3 rfl rfl rfl rfl rfl (by decide) (by decide)
 refine SM .bad rfl (fun L h1 h2 h3=>?_) ?_
 ·show StepX _ _ _ _ _ ((bif (L 0) then [MPC 11 ((bif (L 1) then [(1,9)] else [])++(bif (L 2) then [(2,10)] else [])++(bif (L 3) then [(3,6)] else []))] else [])++[.abs (dscS b l)]:List Ch) ((bif (L 0) then [MPC 11 ((bif (L 1) then [(1,9)] else [])++(bif true then [(2,10)] else [])++(bif (L 3) then [(3,6)] else []))] else [])++[.abs (dscS b l)]:List Ch) _ _ _
  rw [show L 2=false from h3,h1 0 (show (0:Nat)∈Pl.anc (⟨[[],[0],[0],[0],[0,1,2,3],[],[],[],[],[],[],[],[0,1,2,3],[0,1,2,3]],[0,1,2,3],[(0,11)],[]⟩:Pl) 2 by decide)]
  cases L 1<;>cases L 3<;>exact X_insC Tryz.underlying204 Tryz.underlying3 rfl rfl rfl rfl rfl (by decide) (by decide)
 refine SM .bad rfl (fun L h1 h2 h3=>?_) ?_
 ·show StepX _ _ _ _ _ ((bif (L 0) then [MPC 11 ((bif (L 1) then [(1,9)] else [])++(bif (L 2) then [(2,10)] else [])++(bif (L 3) then [(3,6)] else []))] else [])++[.abs (dscS b l)]:List Ch) ((bif (L 0) then [MPC 11 ((bif (L 1) then [(1,9)] else [])++(bif (L 2) then [(2,10)] else [])++(bif true then [(3,6)] else []))] else [])++[.abs (dscS b l)]:List Ch) _ _ _
  rw [show L 3=false from h3,h1 0 (show (0:Nat)∈Pl.anc (⟨[[],[0],[0],[0],[0,1,2,3],[],[],[],[],[],[],[],[0,1,2,3],[0,1,2,3]],[0,1,2,3],[(0,11)],[]⟩:Pl) 3 by decide)]
  cases L 1<;>cases L 2<;>exact X_insC Tryz.underlying204 Tryz.underlying3 rfl rfl rfl rfl rfl (by decide) (by decide)
 refine sm rfl ⟨trivial,?_⟩
 refine sm rfl ⟨trivial,?_⟩
 refine sm rfl ⟨trivial,?_⟩
 refine sm rfl ⟨trivial,?_⟩
 refine sm rfl ⟨trivial,?_⟩
 refine sm rfl ⟨trivial,?_⟩
 refine sm rfl ⟨trivial,?_⟩
 refine SM (I64 r1) rfl (fun L h1 h2 h3=>?_) ?_
 ·show StepX _ _ _ _ _ ((bif (L 0) then [MPC 11 ((bif (L 1) then [(1,9)] else [])++(bif (L 2) then [(2,10)] else [])++(bif (L 3) then [(3,6)] else []))] else [])++[.abs (dscS b l)]:List Ch) ((bif (L 0) then [MPC 11 ((bif (L 1) then [(1,9)] else [])++(bif (L 2) then [(2,10)] else [])++(bif (L 3) then [(3,6)] else []))] else [])++[.abs (dscS b l)]:List Ch) _ _ _
  cases L 0<;>first|exact X_callK [0] (DKind_w b l hP hW _ _ hr2) rfl rfl rfl rfl rfl|exact X_callK [1] (DKind_w b l hP hW _ _ hr2) rfl rfl rfl rfl rfl
 refine SM (I64 ((lkN r1 [(1,9),(2,10),(3,6)]).getD 0)) rfl (fun L h1 h2 h3=>?_) ?_
 ·show StepX _ _ _ _ _ ((bif (L 0) then [MPC 11 ((bif (L 1) then [(1,9)] else [])++(bif (L 2) then [(2,10)] else [])++(bif (L 3) then [(3,6)] else []))] else [])++[.abs (dscS b l)]:List Ch) ((bif (L 0) then [MPC 11 ((bif (L 1) then [(1,9)] else [])++(bif (L 2) then [(2,10)] else [])++(bif (L 3) then [(3,6)] else []))] else [])++[.abs (dscS b l)]:List Ch) _ _ _
  rw [h1 0 (show (0:Nat)∈Pl.anc (⟨[[],[0],[0],[0],[0,1,2,3],[],[],[],[],[],[],[],[0,1,2,3],[0,1,2,3]],[0,1,2,3],[(0,11)],[]⟩:Pl) 12 by decide),h1 1 (show (1:Nat)∈Pl.anc (⟨[[],[0],[0],[0],[0,1,2,3],[],[],[],[],[],[],[],[0,1,2,3],[0,1,2,3]],[0,1,2,3],[(0,11)],[]⟩:Pl) 12 by decide),h1 2 (show (2:Nat)∈Pl.anc (⟨[[],[0],[0],[0],[0,1,2,3],[],[],[],[],[],[],[],[0,1,2,3],[0,1,2,3]],[0,1,2,3],[(0,11)],[]⟩:Pl) 12 by decide),h1 3 (show (3:Nat)∈Pl.anc (⟨[[],[0],[0],[0],[0,1,2,3],[],[],[],[],[],[],[],[0,1,2,3],[0,1,2,3]],[0,1,2,3],[(0,11)],[]⟩:Pl) 12 by decide)]
  exact X_lookC Tryz.underlying204 Tryz.underlying3 rfl rfl rfl rfl rfl rfl (by decide) rfl
 refine sm rfl ⟨trivial,?_⟩
 refine sm rfl ?_
 refine C_le ⟨[(0,.cp [PT b 0]),(4,.cp [I64 t.kind,.s t.name,.sl t.of.length 3 (Ty.rows t.of)]),(5,.cp [I64 v.kind,I64 v.num,.s v.text,SL 1 INTc v.tags,.sl v.items.length 5 (Val.rows v.items)]),(7,I64 ((lkN r1 [(1,9),(2,10),(3,6)]).getD 0))],[.abs (dscS b l)]⟩ (Le.sub [1000000] ⟨rfl,rfl,rfl,rfl,trivial⟩ rfl) ?_
 iterate 4 refine sc rfl ?_
 iterate 3 refine so rfl ?_
 refine so rfl ?_
 refine C_if rfl (fun hb3=>?_) (fun hb3=>?_)
 ·replace h:=cT hb3 h
  iterate 2 refine sc rfl ?_
  refine so rfl ?_
  refine so rfl ?_
  refine sc rfl ?_
  obtain rfl:=osi h
  exact ⟨_,[_],_,rfl,pickA_perm (is:=[0]) (As:=[_]) rfl,rfl,rfl,rfl⟩
 ·replace h:=cF hb3 h
  iterate 2 refine sc rfl ?_
  iterate 5 refine so rfl ?_
  refine so rfl ?_
  refine C_if rfl (fun hb4=>?_) (fun hb4=>?_)
  ·replace h:=cT hb4 h
   iterate 2 refine sc rfl ?_
   refine so rfl ?_
   refine so rfl ?_
   refine sc rfl ?_
   obtain rfl:=osi h
   exact ⟨_,[_],_,rfl,pickA_perm (is:=[0]) (As:=[_]) rfl,rfl,rfl,rfl⟩
  ·replace h:=cF hb4 h
   iterate 2 refine sc rfl ?_
   iterate 3 refine so rfl ?_
   refine so rfl ?_
   refine C_if rfl (fun hb5=>?_) (fun hb5=>?_)
   ·replace h:=cT hb5 h
    iterate 2 refine sc rfl ?_
    obtain ⟨r6,hr7,h⟩:=bT h
    refine C_drawM (⟨[[],[],[],[],[],[],[],[],[],[],[],[],[],[0,1,2,3,4,5,6,7,8,9,10,12],[]],[12,13],[(12,8)],[]⟩:Pl) (fun L=>((bif L 12 then [.box 8 60 (bif L 13 then [I64 r6.1.tag,.s r6.1.name,I64 r6.1.ty.kind,.s r6.1.ty.name,.sl r6.1.ty.of.length 3 (Ty.rows r6.1.ty.of)] else [I64 0,.s [],I64 0,.s [],NIL])] else [])++[.abs (dscS b l)]:List Ch)) rfl (by kernel_rfl) (fun L L' h=>by show ((bif L 12 then [.box 8 60 (bif L 13 then [I64 r6.1.tag,.s r6.1.name,I64 r6.1.ty.kind,.s r6.1.ty.name,.sl r6.1.ty.of.length 3 (Ty.rows r6.1.ty.of)] else [I64 0,.s [],I64 0,.s [],NIL])] else [])++[.abs (dscS b l)]:List Ch)=((bif L' 12 then [.box 8 60 (bif L' 13 then [I64 r6.1.tag,.s r6.1.name,I64 r6.1.ty.kind,.s r6.1.ty.name,.sl r6.1.ty.of.length 3 (Ty.rows r6.1.ty.of)] else [I64 0,.s [],I64 0,.s [],NIL])] else [])++[.abs (dscS b l)]:List Ch);rw [h 12 (by decide),h 13 (by decide)]) rfl ?_
    refine sm rfl ⟨trivial,?_⟩
    refine sm rfl ⟨trivial,?_⟩
    refine sm rfl ⟨trivial,?_⟩
    refine sm rfl ⟨trivial,?_⟩
    refine sm rfl ⟨trivial,?_⟩
    refine sm rfl ⟨trivial,?_⟩
    refine sm rfl ⟨trivial,?_⟩
    refine sm rfl ⟨trivial,?_⟩
    refine SM (.tup [.agg (Fld.c r6.1),B r6.2]) rfl (fun L h1 h2 h3=>?_) ?_
    ·show StepX _ _ _ _ _ ((bif L 12 then [.box 8 60 (bif L 13 then [I64 r6.1.tag,.s r6.1.name,I64 r6.1.ty.kind,.s r6.1.ty.name,.sl r6.1.ty.of.length 3 (Ty.rows r6.1.ty.of)] else [I64 0,.s [],I64 0,.s [],NIL])] else [])++[.abs (dscS b l)]:List Ch) ((bif L 12 then [.box 8 60 (bif L 13 then [I64 r6.1.tag,.s r6.1.name,I64 r6.1.ty.kind,.s r6.1.ty.name,.sl r6.1.ty.of.length 3 (Ty.rows r6.1.ty.of)] else [I64 0,.s [],I64 0,.s [],NIL])] else [])++[.abs (dscS b l)]:List Ch) _ _ _
     cases L 12<;>cases L 13<;>first|exact X_callK [0] (DRow_w b l hP hW _ _ _ hr7) rfl rfl rfl rfl rfl|exact X_callK [1] (DRow_w b l hP hW _ _ _ hr7) rfl rfl rfl rfl rfl
    refine sm rfl ⟨trivial,?_⟩
    refine sm rfl ⟨trivial,?_⟩
    refine sm rfl ⟨trivial,?_⟩
    refine SM (.bp 8 0) rfl (fun L h1 h2 h3=>?_) ?_
    ·show StepX _ _ _ _ _ ((bif L 12 then [.box 8 60 (bif L 13 then [I64 r6.1.tag,.s r6.1.name,I64 r6.1.ty.kind,.s r6.1.ty.name,.sl r6.1.ty.of.length 3 (Ty.rows r6.1.ty.of)] else [I64 0,.s [],I64 0,.s [],NIL])] else [])++[.abs (dscS b l)]:List Ch) ((bif true then [.box 8 60 (bif (L 13) then [I64 r6.1.tag,.s r6.1.name,I64 r6.1.ty.kind,.s r6.1.ty.name,.sl r6.1.ty.of.length 3 (Ty.rows r6.1.ty.of)] else [I64 0,.s [],I64 0,.s [],NIL])] else [])++[.abs (dscS b l)]:List Ch) _ _ _
     rw [show L 12=false from h3,h2 13 (show (12:Nat)∈Pl.anc (⟨[[],[],[],[],[],[],[],[],[],[],[],[],[],[0,1,2,3,4,5,6,7,8,9,10,12],[]],[12,13],[(12,8)],[]⟩:Pl) 13 by decide)]
     exact X_alloc rfl rfl rfl rfl (show ((12,8):Nat×Nat)∈Pl.cre (⟨[[],[],[],[],[],[],[],[],[],[],[],[],[],[0,1,2,3,4,5,6,7,8,9,10,12],[]],[12,13],[(12,8)],[]⟩:Pl) by decide) rfl rfl rfl
    refine SM .bad rfl (fun L h1 h2 h3=>?_) ?_
    ·show StepX _ _ _ _ _ ((bif L 12 then [.box 8 60 (bif L 13 then [I64 r6.1.tag,.s r6.1.name,I64 r6.1.ty.kind,.s r6.1.ty.name,.sl r6.1.ty.of.length 3 (Ty.rows r6.1.ty.of)] else [I64 0,.s [],I64 0,.s [],NIL])] else [])++[.abs (dscS b l)]:List Ch) ((bif (L 12) then [.box 8 60 (bif true then [I64 r6.1.tag,.s r6.1.name,I64 r6.1.ty.kind,.s r6.1.ty.name,.sl r6.1.ty.of.length 3 (Ty.rows r6.1.ty.of)] else [I64 0,.s [],I64 0,.s [],NIL])] else [])++[.abs (dscS b l)]:List Ch) _ _ _
     rw [show L 13=false from h3,h1 12 (show (12:Nat)∈Pl.anc (⟨[[],[],[],[],[],[],[],[],[],[],[],[],[],[0,1,2,3,4,5,6,7,8,9,10,12],[]],[12,13],[(12,8)],[]⟩:Pl) 13 by decide)]
     exact X_storeK rfl rfl rfl rfl rfl rfl rfl rfl rfl
    refine sm rfl ⟨trivial,?_⟩
    refine sm rfl ?_
    show SymC _ _ _ ⟨_,[.box 8 60 [I64 r6.1.tag,.s r6.1.name,I64 r6.1.ty.kind,.s r6.1.ty.name,.sl r6.1.ty.of.length 3 (Ty.rows r6.1.ty.of)],.abs (dscS b l)]⟩ _
    refine C_le _ (Le.freezebox 8 rfl rfl rfl) ?_
    iterate 2 refine sc rfl ?_
    iterate 2 refine so rfl ?_
    refine so rfl ?_
    refine C_if rfl (fun hb8=>?_) (fun hb8=>?_)
    ·replace h:=cT hb8 h
     iterate 2 refine sc rfl ?_
     refine so rfl ?_
     refine so rfl ?_
     refine sc rfl ?_
     obtain rfl:=osi h
     exact ⟨_,[_],_,rfl,pickA_perm (is:=[0]) (As:=[_]) rfl,rfl,rfl,rfl⟩
    ·replace h:=cF hb8 h
     iterate 3 refine sc rfl ?_
     refine so rfl ?_
     refine so rfl ?_
     refine sc rfl ?_
     obtain rfl:=osi h
     exact ⟨_,[_],_,rfl,pickA_perm (is:=[0]) (As:=[_]) rfl,rfl,rfl,rfl⟩
   ·replace h:=cF hb5 h
    iterate 4 refine sc rfl ?_
    iterate 2 refine so rfl ?_
    refine so rfl ?_
    obtain ⟨r9,hr10,h⟩:=bT h
    refine O_cA [0] (FRows_w b l hP hW rec _ _ _ hrec hr10) ?_
    rintro q11 cs' ⟨rfl,rfl⟩
    refine so rfl ?_
    refine so rfl ?_
    refine sc rfl ?_
    obtain ⟨m12,hm12,h⟩:=bT h
    refine C_join ⟨[(0,.cp [PT b 0]),(4,.cp [I64 t.kind,.s t.name,.sl t.of.length 3 (Ty.rows t.of)]),(5,.cp [I64 v.kind,I64 v.num,.s v.text,SL 1 INTc v.tags,.sl v.items.length 5 (Val.rows v.items)]),(10,I64 r9),(55,B m12)],[.abs (dscS b l)]⟩ ?_ (fun s hm12s=>C_le _ hm12s ?_)
    ·refine sc rfl ?_
     iterate 3 refine so rfl ?_
     refine O_case 52 rfl (fun hb13=>?_) (fun hb13=>?_)
     ·replace hm12:=cT hb13 hm12
      iterate 3 refine so rfl ?_
      refine so rfl ?_
      obtain rfl:=osi hm12
      exact Le.sub [1000000] ⟨rfl,rfl,rfl,rfl,rfl,trivial⟩ rfl
     ·replace hm12:=cF hb13 hm12
      iterate 3 refine so rfl ?_
      refine so rfl ?_
      obtain rfl:=osi hm12
      exact Le.sub [1000000] ⟨rfl,rfl,rfl,rfl,rfl,trivial⟩ rfl
    refine C_if rfl (fun hb14=>?_) (fun hb14=>?_)
    ·replace h:=cT hb14 h
     iterate 2 refine sc rfl ?_
     iterate 2 refine so rfl ?_
     refine so rfl ?_
     refine sc rfl ?_
     obtain rfl:=osi h
     exact ⟨_,[_],_,rfl,pickA_perm (is:=[0]) (As:=[_]) rfl,rfl,rfl,rfl⟩
    ·replace h:=cF hb14 h
     iterate 3 refine sc rfl ?_
     iterate 2 refine so rfl ?_
     refine so rfl ?_
     obtain ⟨r15,hr16,h⟩:=bT h
     refine O_cA [0] (FWhole_w b l hP hW  _ _ _ hr16) ?_
     rintro q17 cs' ⟨rfl,rfl⟩
     refine so rfl ?_
     refine so rfl ?_
     refine sc rfl ?_
     obtain rfl:=osi h
     exact ⟨_,[_],_,rfl,pickA_perm (is:=[0]) (As:=[_]) rfl,rfl,rfl,rfl⟩
noncomputable def FFits_F (l:List Dcl) (rec:Ty→Val→Option (Int)) (t:Ty) (v:Val):Option (Int) :=
 Option.bind (α:=Bool) (cond (t.kind == 7) (some (t.kind == 7)) (some (t.kind == 8))) (fun m1=>cond m1 (Option.bind (FList_F l rec t v) (fun r4=>some r4)) (cond (t.kind == 6) (Option.bind (FNamed_F l rec t v) (fun r8=>some r8)) (cond (t.kind == 9) (cond ((t.of.length:Int) != 1) (some 8) (chk ((0:Int)≤0∧0<(t.of.length:Int)) (Option.bind (rec (t.of.getD (Int.toNat 0) default) v) (fun r14=>some r14)))) (Option.bind (FKind_F t.kind) (fun r16=>cond (r16 == 0) (some 8) (cond (r16 == v.kind) (some 0) (some 4)))))))
theorem FFits_wb (b:Nat) (l:List Dcl) (hP:Prep l) (hW:WellL l) (rec:Ty→Val→Option (Int)) (t:Ty) (v:Val) (r:Int) (hrec:∀ t v r,rec t v=some r→FnA Tryz.prog 44 [.cp [PT b 0],.agg (Ty.c t),.agg (Val.c v)] [dscS b l] (fun x cs'=>x=I64 r∧cs'=[dscS b l])) (h:FFits_F l rec t v=some r):FnA Tryz.prog 44 [.cp [PT b 0],.agg (Ty.c t),.agg (Val.c v)] [dscS b l] (fun x cs'=>x=I64 r∧cs'=[dscS b l]):=by
 unfold FFits_F at h
 refine fnA Tryz.func44 fun X=>?_
 iterate 2 refine sc rfl ?_
 refine so rfl ?_
 refine O_le _ (Le.freezebox 4 rfl rfl rfl) ?_
 refine so rfl ?_
 refine O_le _ (Le.freezebox 5 rfl rfl rfl) ?_
 refine so rfl ?_
 refine so rfl ?_
 iterate 2 refine sc rfl ?_
 refine so rfl ?_
 refine O_makeBound rfl rfl rfl rfl ?_
 refine so rfl ?_
 refine so rfl ?_
 iterate 3 refine sc rfl ?_
 iterate 2 refine so rfl ?_
 refine so rfl ?_
 iterate 4 refine sc rfl ?_
 iterate 2 refine so rfl ?_
 refine so rfl ?_
 obtain ⟨m1,hm1,h⟩:=bT h
 refine C_join ⟨[(0,.cp [PT b 0]),(4,.cp [I64 t.kind,.s t.name,.sl t.of.length 3 (Ty.rows t.of)]),(5,.cp [I64 v.kind,I64 v.num,.s v.text,SL 1 INTc v.tags,.sl v.items.length 5 (Val.rows v.items)]),(7,.p (bndRP 85 [.cp [PT b 0]])),(11,I64 t.kind),(21,B m1)],[.abs (dscS b l)]⟩ ?_ (fun s hm1s=>C_le _ hm1s ?_)
 ·refine C_if rfl (fun hb2=>?_) (fun hb2=>?_)
  ·replace hm1:=cT hb2 hm1
   refine sc rfl ?_
   obtain rfl:=osi hm1
   exact Le.sub [1000000] ⟨rfl,rfl,rfl,rfl,rfl,rfl,trivial⟩ rfl
  ·replace hm1:=cF hb2 hm1
   refine sc rfl ?_
   iterate 2 refine so rfl ?_
   refine so rfl ?_
   obtain rfl:=osi hm1
   exact Le.sub [1000000] ⟨rfl,rfl,rfl,rfl,rfl,rfl,trivial⟩ rfl
 refine C_if rfl (fun hb3=>?_) (fun hb3=>?_)
 ·replace h:=cT hb3 h
  iterate 3 refine sc rfl ?_
  iterate 2 refine so rfl ?_
  refine so rfl ?_
  obtain ⟨r4,hr5,h⟩:=bT h
  refine O_callBound [0] (fs:=[.cp [PT b 0]]) (avs:=[.agg (Ty.c t),.agg (Val.c v)]) (by exact FList_w b l hP hW rec _ _ _ hrec hr5) rfl (by rfl) (by rfl) (by rfl) (by rfl) (by rfl) ?_
  rintro q6 cs' ⟨rfl,rfl⟩
  refine so rfl ?_
  refine so rfl ?_
  refine sc rfl ?_
  obtain rfl:=osi h
  exact ⟨_,[_],_,rfl,pickA_perm (is:=[0]) (As:=[_]) rfl,rfl,rfl,rfl⟩
 ·replace h:=cF hb3 h
  iterate 2 refine sc rfl ?_
  iterate 2 refine so rfl ?_
  refine so rfl ?_
  refine C_if rfl (fun hb7=>?_) (fun hb7=>?_)
  ·replace h:=cT hb7 h
   refine sc rfl ?_
   refine so rfl ?_
   refine O_makeBound rfl rfl rfl rfl ?_
   refine so rfl ?_
   refine so rfl ?_
   iterate 2 refine sc rfl ?_
   iterate 2 refine so rfl ?_
   refine so rfl ?_
   obtain ⟨r8,hr9,h⟩:=bT h
   refine O_callBound [0] (fs:=[.cp [PT b 0]]) (avs:=[.agg (Ty.c t),.agg (Val.c v)]) (by exact FNamed_w b l hP hW rec _ _ _ hrec hr9) rfl (by rfl) (by rfl) (by rfl) (by rfl) (by rfl) ?_
   rintro q10 cs' ⟨rfl,rfl⟩
   refine so rfl ?_
   refine so rfl ?_
   refine sc rfl ?_
   obtain rfl:=osi h
   exact ⟨_,[_],_,rfl,pickA_perm (is:=[0]) (As:=[_]) rfl,rfl,rfl,rfl⟩
  ·replace h:=cF hb7 h
   iterate 2 refine sc rfl ?_
   iterate 2 refine so rfl ?_
   refine so rfl ?_
   refine C_if rfl (fun hb11=>?_) (fun hb11=>?_)
   ·replace h:=cT hb11 h
    iterate 3 refine sc rfl ?_
    iterate 2 refine so rfl ?_
    refine O_le _ (Le.one 31 (SL 3 Ty.c t.of) rfl (.row (Ty.rows_eq _))) ?_
    iterate 2 refine so rfl ?_
    refine so rfl ?_
    refine C_if rfl (fun hb12=>?_) (fun hb12=>?_)
    ·replace h:=cT hb12 h
     iterate 2 refine sc rfl ?_
     refine so rfl ?_
     refine so rfl ?_
     refine sc rfl ?_
     obtain rfl:=osi h
     exact ⟨_,[_],_,rfl,pickA_perm (is:=[0]) (As:=[_]) rfl,rfl,rfl,rfl⟩
    ·replace h:=cF hb12 h
     iterate 2 refine sc rfl ?_
     refine C_drawD rfl (by kernel_rfl) ?_
     iterate 2 refine sd rfl ?_
     refine sdw (SL 3 Ty.c t.of) rfl rfl rfl (.row (Ty.rows_eq _)) ?_
     obtain ⟨g13,h⟩:=gT h
     refine sd rfl (And.intro g13 ?_)
     iterate 2 refine sd rfl ?_
     obtain ⟨r14,hr15,h⟩:=bT h
     refine D_callA [0] (hrec _ _ _ hr15) rfl rfl rfl rfl rfl ?_
     refine sd rfl ?_
     refine sd rfl ?_
     refine sc rfl ?_
     obtain rfl:=osi h
     exact ⟨_,[_],_,rfl,pickA_perm (is:=[0]) (As:=[_]) rfl,rfl,rfl,rfl⟩
   ·replace h:=cF hb11 h
    iterate 3 refine sc rfl ?_
    iterate 2 refine so rfl ?_
    obtain ⟨r16,hr17,h⟩:=bT h
    refine O_cP (FKind_w _ _ hr17) fun q18 hq18=>?_
    subst hq18
    refine so rfl ?_
    iterate 3 refine sc rfl ?_
    iterate 2 refine so rfl ?_
    refine so rfl ?_
    refine C_if rfl (fun hb19=>?_) (fun hb19=>?_)
    ·replace h:=cT hb19 h
     iterate 2 refine sc rfl ?_
     refine so rfl ?_
     refine so rfl ?_
     refine sc rfl ?_
     obtain rfl:=osi h
     exact ⟨_,[_],_,rfl,pickA_perm (is:=[0]) (As:=[_]) rfl,rfl,rfl,rfl⟩
    ·replace h:=cF hb19 h
     iterate 2 refine sc rfl ?_
     iterate 4 refine so rfl ?_
     refine so rfl ?_
     refine C_if rfl (fun hb20=>?_) (fun hb20=>?_)
     ·replace h:=cT hb20 h
      iterate 2 refine sc rfl ?_
      refine so rfl ?_
      refine so rfl ?_
      refine sc rfl ?_
      obtain rfl:=osi h
      exact ⟨_,[_],_,rfl,pickA_perm (is:=[0]) (As:=[_]) rfl,rfl,rfl,rfl⟩
     ·replace h:=cF hb20 h
      iterate 3 refine sc rfl ?_
      refine so rfl ?_
      refine so rfl ?_
      refine sc rfl ?_
      obtain rfl:=osi h
      exact ⟨_,[_],_,rfl,pickA_perm (is:=[0]) (As:=[_]) rfl,rfl,rfl,rfl⟩
noncomputable def FFits_X (l:List Dcl):Nat→Ty→Val→Option (Int)
 | 0=>fun _ _=>none
 | n+1=>FFits_F l (FFits_X l n)
theorem FFits_wn (b:Nat) (l:List Dcl) (hP:Prep l) (hW:WellL l):∀ (n:Nat) (t:Ty) (v:Val) (r:Int),FFits_X l n t v=some r→FnA Tryz.prog 44 [.cp [PT b 0],.agg (Ty.c t),.agg (Val.c v)] [dscS b l] (fun x cs'=>x=I64 r∧cs'=[dscS b l])
 | 0,_,_,_,h=>by cases h
 | n+1,t,v,r,h=>FFits_wb b l hP hW (FFits_X l n) t v r (fun t v r hr=>FFits_wn b l hP hW n t v r hr) h
theorem FFits_w (b:Nat) (l:List Dcl) (hP:Prep l) (hW:WellL l) (t:Ty) (v:Val) (r:Int) (h:FFits_X l FU t v=some r):FnA Tryz.prog 44 [.cp [PT b 0],.agg (Ty.c t),.agg (Val.c v)] [dscS b l] (fun x cs'=>x=I64 r∧cs'=[dscS b l]):=FFits_wn b l hP hW FU t v r h
end Go.Proofs
