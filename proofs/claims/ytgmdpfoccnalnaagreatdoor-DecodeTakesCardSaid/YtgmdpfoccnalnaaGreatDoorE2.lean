/- The symbolic walk, part 15: regions whose order is drawn and that call. -/
import Derived.Test.YtgmdpfoccnalnaaGreatDoorE1
import Derived.Orders
import Derived.Laws.StructEq
import Derived.Laws.BytesArg
import Derived.Scope
import Derived.Laws.RangeString
import Derived.Laws.IdiomCopy
import Derived.Laws.IdiomStrings
import Derived.ArgAppend
import Derived.MapKept
import Derived.Laws.CopyRow
set_option linter.unusedSimpArgs false
set_option linter.unusedVariables false
namespace Go.Sy
open Go.RowKit

def putS (d:Option Nat) (x:AV) (s:List (Nat×AV)):List (Nat×AV) :=
 match d with
 | none=>s
 | some d=>(d,x)::s

def normG {α β:Type}:List α→(List α→β)→β
 | [],k=>k []
 | x::xs,k=>normG xs fun ys=>k (x::ys)
theorem normG_eq {α β:Type}:∀ (l:List α) (k:List α→β),normG l k=k l
 | [],k=>rfl
 | x::xs,k=>by simp only [normG];rw [normG_eq xs]

abbrev Done:=List (Option Nat×AV)

def availL (done:Done):List Edge→List (Nat×AV)→List (Nat×AV)
 | [],base=>base
 | e::es,base=>match Region.binds .any e,done[e.on]? with
  | true,some (some d,x)=>(d,x)::availL done es base
  | _,_=>availL done es base

def finS (base:List (Nat×AV)):Done→List (Nat×AV)
 | []=>base
 | (d,x)::r=>putS d x (finS base r)

theorem availL_get {done:Done} {base:List (Nat×AV)}:∀ {es:List Edge} {k:Nat} {y:AV},get (availL done es base) k=some y →
  (∃ e∈es,Region.binds .any e=true∧done[e.on]?=some (some k,y))∨get base k=some y
 | [],k,y,h=>.inr h
 | e::es,k,y,h=>by
  simp only [availL] at h
  split at h
  ·rename_i d x hb hd
   rw [get_cons] at h
   by_cases hk:d=k
   ·rw [if_pos hk] at h
    cases h
    subst hk
    exact .inl ⟨e,by simp,hb,hd⟩
   ·rw [if_neg hk] at h
    rcases availL_get h with ⟨e',h1,h2⟩|h1
    ·exact .inl ⟨e',by simp [h1],h2⟩
    ·exact .inr h1
  ·rcases availL_get h with ⟨e',h1,h2⟩|h1
   ·exact .inl ⟨e',by simp [h1],h2⟩
   ·exact .inr h1

theorem finS_get {base:List (Nat×AV)}:∀ {D:Done} {k:Nat} {y:AV},get (finS base D) k=some y→(∃ i:Nat,D[i]?=some (some k,y))∨get base k=some y
 | [],k,y,h=>.inr h
 | (d,x)::r,k,y,h=>by
  simp only [finS] at h
  cases d with
  | none =>
   simp only [putS] at h
   rcases finS_get h with ⟨i,h1⟩|h1
   ·exact .inl ⟨i+1,by simpa using h1⟩
   ·exact .inr h1
  | some d =>
   simp only [putS] at h
   rw [get_cons] at h
   by_cases hk:d=k
   ·rw [if_pos hk] at h
    cases h
    subst hk
    exact .inl ⟨0,rfl⟩
   ·rw [if_neg hk] at h
    rcases finS_get h with ⟨i,h1⟩|h1
    ·exact .inl ⟨i+1,by simpa using h1⟩
    ·exact .inr h1

section
variable {P:Program} {T:Tab} {X:Ctx P T} {n:Nat} {e:Env} {st:St} {a:Act} {w:World} {ops:Array Oper} {K:St→Prop}

def StepD {P:Program} {T:Tab} (X:Ctx P T) (n:Nat) (ops:Array Oper) (Si:List (Nat×AV)) (c:List Ch) (o:Oper) (x:AV):Prop :=
 ∀ e a w S (K:Act→World→Prop) (Q:QX X),Rel X n e ⟨S,c⟩ a w→(∀ k y,get Si k=some y→get S k=some y) →
  (∀ e' a' w',Rel X n e' ⟨putS o.dst x S,c⟩ a' w'→K a' w') →
  if Region.wanted o (yielded ops a.tmps) then o.wp P a w K Q∨(o.asks P a w∧LetsOut Q) else K (a.put o.dst undef) w

def SymD {P:Program} {T:Tab} (X:Ctx P T) (n:Nat) (ops:Array Oper) (base:List (Nat×AV)) (c:List Ch) (K:St→Prop):List Oper→Done→Prop
 | [],done=>K ⟨finS base done,c⟩
 | o::rest,done=>∃ x,StepD X n ops (availL done o.after.toList base) c o x∧SymD X n ops base c K rest (done++[(o.dst,x)])

def dstOK (n:Nat):Option Nat→Bool
 | none=>true
 | some d=>Nat.blt d n

theorem putOK (r:Rel X n e st a w) {d:Option Nat} {x:AV} {v:Value} (hd:dstOK n d=true) (hv:Rep e x v):Rel X n e ⟨putS d x st.s,st.c⟩ (a.put d v) w:=by
 cases d with
 | none=>simpa [putS,Act.put] using r
 | some d=>exact r.put hd hv

def stepDK {P:Program} {T:Tab} (X:Ctx P T) (n:Nat) (ops:Array Oper) (base:List (Nat×AV)) (c:List Ch) (K:St→Prop):List Oper→Done→Option Prop
 | [],done=>normG (finS base done) fun s=>some (K ⟨s,c⟩)
 | o::rest,done=>normG (availL done o.after.toList base) fun Si=>match guardA ops ⟨Si,c⟩ o,dstOK n o.dst with
  | some true,true=>(match still T ⟨Si,c⟩ o.op with
   | some x=>normA x fun x=>normG (done++[(o.dst,x)]) fun done=>some (SymD X n ops base c K rest done)
   | none=>match still1 T ⟨Si,c⟩ o.op with
    | some (vc,x)=>normA x fun x=>normG (done++[(o.dst,x)]) fun done=>some (vc∧SymD X n ops base c K rest done)
    | none=>none)
  | some false,true=>normG (done++[(o.dst,.tup [])]) fun done=>some (SymD X n ops base c K rest done)
  | _,_=>none

theorem sd {base:List (Nat×AV)} {c:List Ch} {l:List Oper} {done:Done} {p:Prop} (h:stepDK X n ops base c K l done=some p) (hp:p):SymD X n ops base c K l done:=by
 cases l with
 | nil =>
  simp only [stepDK,normG_eq,Option.some.injEq] at h
  subst h
  exact hp
 | cons o rest =>
  simp only [stepDK,normG_eq,normA_eq] at h
  split at h
  ·rename_i hg hd
   split at h
   ·rename_i x hs
    simp only [Option.some.injEq] at h
    subst h
    refine ⟨x,fun e a w S K Q r hS hk=>?_,hp⟩
    have r':Rel X n e ⟨availL done o.after.toList base,c⟩ a w:=r.less hS id
    rw [if_pos (guardA_sound r' hg)]
    obtain ⟨v,h2,h1⟩:=still_sound r' hs
    refine .inl ?_
    unfold Oper.wp
    rw [h1 w (SameAs.refl w)]
    exact hk _ _ _ (putOK r hd h2)
   ·split at h
    ·rename_i vc x hs
     simp only [Option.some.injEq] at h
     subst h
     refine ⟨x,fun e a w S K Q r hS hk=>?_,hp.2⟩
     have r':Rel X n e ⟨availL done o.after.toList base,c⟩ a w:=r.less hS id
     rw [if_pos (guardA_sound r' hg)]
     obtain ⟨v,h2,h1⟩:=still1_sound r' hs hp.1
     refine .inl ?_
     unfold Oper.wp
     rw [h1 w (SameAs.refl w)]
     exact hk _ _ _ (putOK r hd h2)
    ·cases h
  ·rename_i hg hd
   simp only [Option.some.injEq] at h
   subst h
   refine ⟨.tup [],fun e a w S K Q r hS hk=>?_,hp⟩
   have r':Rel X n e ⟨availL done o.after.toList base,c⟩ a w:=r.less hS id
   rw [if_neg (by rw [guardA_sound r' hg];decide)]
   exact hk _ _ _ (putOK r hd (by simp [Rep,RepT,undef]))
  ·cases h

theorem D_call {base:List (Nat×AV)} {c:List Ch} {done:Done} {f:FuncId} {dst:Nat} {args:Array Operand} {tys:Array TypeId} {ty:TypeId} {pos:String} {aft:Array Edge} {gd:Option (Nat×Bool)} {rest:List Oper} {avs:List AV} {x:AV}
  (hf:FnP P f avs (·=x)) (hg:guardA ops ⟨availL done aft.toList base,c⟩ ⟨some dst,.call ⟨.value (.func f),args,tys⟩,ty,pos,aft,gd⟩=some true) (ha:opds (availL done aft.toList base) args.toList=some avs) (himm:AV.imm.immL avs=true) (hd:Nat.blt dst n=true)
  (k:SymD X n ops base c K rest (done++[(some dst,x)])) :
  SymD X n ops base c K (⟨some dst,.call ⟨.value (.func f),args,tys⟩,ty,pos,aft,gd⟩::rest) done:=by
 refine ⟨x,fun e a w S K' Q r hS hk=>?_,k⟩
 have r0:Rel X n e ⟨availL done aft.toList base,c⟩ a w:=r.less hS id
 rw [if_pos (guardA_sound r0 hg)]
 refine .inl ?_
 unfold Oper.wp
 rw [run_call hf.1 a.eval rfl w,Oper.upon_enter]
 have h1:=RepT.toI avs himm (opds_sound r0 ha)
 have h2:=hf.2 e.G w _ ⟨r.im,r.mz⟩ h1
 have harr:args.map a.eval=(args.toList.map a.eval).toArray:=by
  apply Array.ext';simp
 rw [harr]
 refine h2.mono ?_
 rintro en w' ⟨rv,cr,G',rfl,rfl,g1,g2,g3,g4,g5⟩
 have r':Rel X n ⟨G',e.μ,e.hd⟩ ⟨S,c⟩ a w':=r.after g2 g3 g4 g5
 exact hk _ _ _ (r'.put (x:=rv) (v:=cr) hd (RepI.toRep (e:=⟨G',e.μ,e.hd⟩) rv g1))

theorem SymD.plan {base:List (Nat×AV)} {c:List Ch}:∀ {l:List Oper} {done:Done},SymD X n ops base c K l done →
  ∃ D:Done,done <+: D∧D.length=done.length+l.length∧K ⟨finS base D,c⟩ ∧
   ∀ i o,l[i]?=some o→∃ x,D[done.length+i]?=some (o.dst,x)∧StepD X n ops (availL (D.take (done.length+i)) o.after.toList base) c o x
 | [],done,h=>⟨done,List.prefix_refl _,by simp,h,fun i o hi=>by simp at hi⟩
 | o::rest,done,h=>by
  obtain ⟨x,h1,h2⟩:=h
  obtain ⟨D,hp,hl,hK,hs⟩:=SymD.plan h2
  have hp':done <+: D:=(List.prefix_append done _).trans hp
  refine ⟨D,hp',by simp at hl ⊢;omega,hK,fun i o' hi=>?_⟩
  cases i with
  | zero =>
   simp only [List.getElem?_cons_zero,Option.some.injEq] at hi
   subst hi
   refine ⟨x,?_,?_⟩
   ·obtain ⟨t,rfl⟩:=hp
    simp
   ·obtain ⟨t,rfl⟩:=hp'
    simpa using h1
  | succ i =>
   obtain ⟨y,g1,g2⟩:=hs i o' (by simpa using hi)
   refine ⟨y,?_,?_⟩
   ·simpa [Nat.add_assoc,Nat.add_comm 1 i] using g1
   ·simpa [Nat.add_assoc,Nat.add_comm 1 i] using g2

def chkD (base:List (Nat×AV)):Nat→List Nat→List Oper→Bool
 | _,_,[]=>true
 | i,seen,o::r=>(o.after.toList.all fun e=>!Region.binds .any e||Nat.blt e.on i) &&
  match o.dst with
  | none=>chkD base (i+1) seen r
  | some d=>!(seen.any (Nat.beq d))&&freeS d base&&chkD base (i+1) (d::seen) r
where freeS (d:Nat):List (Nat×AV)→Bool
 | []=>true
 | (k,_)::r=>!(Nat.beq k d)&&freeS d r

theorem freeS_get {d:Nat}:∀ {s:List (Nat×AV)},chkD.freeS d s=true→get s d=none
 | [],_=>rfl
 | (k,x)::r,h=>by
  simp only [chkD.freeS,Bool.and_eq_true,Bool.not_eq_true'] at h
  rw [get_cons,if_neg (beq_ne h.1)]
  exact freeS_get h.2

theorem chkD_spec {base:List (Nat×AV)}:∀ {l:List Oper} {i:Nat} {seen:List Nat},chkD base i seen l=true →
  (∀ (j:Nat) (o:Oper),l[j]?=some o→(∀ e∈o.after,Region.binds .any e=true→e.on<i+j)∧∀ d,o.dst=some d→get base d=none∧d∉seen) ∧
  ∀ (j k:Nat) (o o':Oper) (d:Nat),l[j]?=some o→l[k]?=some o'→o.dst=some d→o'.dst=some d→j=k
 | [],i,seen,_=>⟨fun j o h=>by simp at h,fun j k o o' d h=>by simp at h⟩
 | o::r,i,seen,h=>by
  simp only [chkD,Bool.and_eq_true] at h
  obtain ⟨h1,h2⟩:=h
  have hedge:∀ e∈o.after,Region.binds .any e=true→e.on<i:=by
   intro e he hb
   have:=List.all_eq_true.1 h1 e (by simpa using he)
   rw [hb] at this
   simp [Nat.blt] at this
   omega
  cases hd:o.dst with
  | none =>
   rw [hd] at h2
   obtain ⟨ih1,ih2⟩:=chkD_spec h2
   refine ⟨fun j o' hj=>?_,fun j k o1 o2 d hj hk e1 e2=>?_⟩
   ·cases j with
    | zero=>simp at hj;subst hj;exact ⟨hedge,fun d hd'=>by rw [hd] at hd';cases hd'⟩
    | succ j =>
     obtain ⟨g1,g2⟩:=ih1 j o' (by simpa using hj)
     exact ⟨fun e he hb=>by have:=g1 e he hb;omega,g2⟩
   ·cases j with
    | zero=>simp at hj;subst hj;rw [hd] at e1;cases e1
    | succ j =>
     cases k with
     | zero=>simp at hk;subst hk;rw [hd] at e2;cases e2
     | succ k=>exact congrArg (·+1) (ih2 j k o1 o2 d (by simpa using hj) (by simpa using hk) e1 e2)
  | some d0 =>
   rw [hd] at h2
   simp only [Bool.and_eq_true,Bool.not_eq_true'] at h2
   obtain ⟨⟨h3,h4⟩,h5⟩:=h2
   obtain ⟨ih1,ih2⟩:=chkD_spec h5
   have hns:d0∉seen:=fun hm=>by
    have:seen.any (Nat.beq d0)=true:=List.any_eq_true.2 ⟨d0,hm,Nat.beq_refl d0⟩
    rw [this] at h3;cases h3
   refine ⟨fun j o' hj=>?_,fun j k o1 o2 d hj hk e1 e2=>?_⟩
   ·cases j with
    | zero =>
     simp at hj;subst hj
     exact ⟨hedge,fun d hd'=>by rw [hd] at hd';cases hd';exact ⟨freeS_get h4,hns⟩⟩
    | succ j =>
     obtain ⟨g1,g2⟩:=ih1 j o' (by simpa using hj)
     exact ⟨fun e he hb=>by have:=g1 e he hb;omega,fun d hd'=>⟨(g2 d hd').1,fun hm=>(g2 d hd').2 (List.mem_cons_of_mem _ hm)⟩⟩
   ·cases j with
    | zero =>
     simp at hj;subst hj
     rw [hd] at e1;cases e1
     cases k with
     | zero=>rfl
     | succ k=>exact absurd (List.mem_cons_self) ((ih1 k o2 (by simpa using hk)).2 d0 e2).2
    | succ j =>
     cases k with
     | zero =>
      simp at hk;subst hk
      rw [hd] at e2;cases e2
      exact absurd (List.mem_cons_self) ((ih1 j o1 (by simpa using hj)).2 d0 e1).2
     | succ k=>exact congrArg (·+1) (ih2 j k o1 o2 d (by simpa using hj) (by simpa using hk) e1 e2)

theorem any_of_D {base:List (Nat×AV)} {c:List Ch} {D:Done} {Q:QX X} (hD:D.length=ops.size)
  (hstep:∀ i o,ops[i]?=some o→∃ x,D[i]?=some (o.dst,x)∧StepD X n ops (availL (D.take i) o.after.toList base) c o x)
  (hedge:∀ i o,ops[i]?=some o→∀ e∈o.after,Region.binds .any e=true→e.on<i)
  (hdist:∀ (i j:Nat) o o' d,ops[i]?=some o→ops[j]?=some o'→o.dst=some d→o'.dst=some d→i=j)
  (hbase:∀ (i:Nat) o d,ops[i]?=some o→o.dst=some d→get base d=none)
  (hfin:∀ e a w,Rel X n e ⟨finS base D,c⟩ a w→Q .normal a w) :
  ∀ (fuel:Nat) (listed:Array Bool) (a:Act) (w:World) (e:Env) (S:List (Nat×AV)),listed.size=ops.size→listed.toList.count false=fuel→Rel X n e ⟨S,c⟩ a w →
   (∀ k y,get base k=some y→get S k=some y)→(∀ (i:Nat) d x,listed.getD i false=true→D[i]?=some (some d,x)→get S d=some x) →
   wpAny P .any ops Q fuel listed a w:=by
 have progress:∀ (listed:Array Bool),listed.size=ops.size→Region.ready .any ops listed=[]→∀ i,i<ops.size→listed.getD i false=true:=by
  intro listed hsz hr i
  induction i using Nat.strongRecOn with
  | ind i ih =>
   intro hi
   cases hl:listed.getD i true with
   | true =>
    have:i<listed.size:=by omega
    simp [this] at hl ⊢
    exact hl
   | false =>
    exfalso
    have hmem:i∈Region.ready .any ops listed:=by
     rw [mem_ready]
     refine ⟨hl,ops[i],by simp [hi],fun e he hb=>ih e.on (hedge i ops[i] (by simp [hi]) e he hb) ?_⟩
     have:=hedge i ops[i] (by simp [hi]) e he hb
     omega
    rw [hr] at hmem
    cases hmem
 have final:∀ (listed:Array Bool) a w e S,listed.size=ops.size→Region.ready .any ops listed=[]→Rel X n e ⟨S,c⟩ a w →
   (∀ k y,get base k=some y→get S k=some y)→(∀ (i:Nat) d x,listed.getD i false=true→D[i]?=some (some d,x)→get S d=some x)→Q .normal a w:=by
  intro listed a w e S hsz hr r hb hs
  refine hfin e a w (r.less (fun k y hk=>?_) id)
  rcases finS_get hk with ⟨i,hi⟩|h
  ·have hlt:i<D.length:=by
    rcases Nat.lt_or_ge i D.length with h|h
    ·exact h
    ·rw [List.getElem?_eq_none h] at hi;cases hi
   exact hs i k y (progress listed hsz hr i (by omega)) hi
  ·exact hb k y h
 intro fuel
 induction fuel with
 | zero =>
  intro listed a w e S hsz hc r hb hs
  have hall:∀ i,i<listed.size→listed.getD i true=true:=by
   intro i hi
   cases hl:listed.getD i true with
   | true=>rfl
   | false =>
    exfalso
    have:false∈listed.toList:=by
     simp [hi] at hl
     exact List.mem_iff_getElem.2 ⟨i,by simpa using hi,by simpa using hl⟩
    have:=List.count_pos_iff.2 this
    omega
  have hr:Region.ready .any ops listed=[]:=by
   cases hrr:Region.ready .any ops listed with
   | nil=>rfl
   | cons j js =>
    exfalso
    have hm:j∈Region.ready .any ops listed:=by rw [hrr];simp
    rw [mem_ready] at hm
    obtain ⟨h0,o,ho,_⟩:=hm
    have hlt:j<ops.size:=(Array.getElem?_eq_some_iff.1 ho).1
    rw [hall j (by omega)] at h0
    cases h0
  exact ⟨hr,final listed a w e S hsz hr r hb hs⟩
 | succ fuel ih =>
  intro listed a w e S hsz hc r hb hs
  refine ⟨fun hr=>final listed a w e S hsz hr r hb hs,fun i hi=>?_⟩
  rw [mem_ready] at hi
  obtain ⟨h0,o,ho,hpre⟩:=hi
  have hlt:i<ops.size:=(Array.getElem?_eq_some_iff.1 ho).1
  have hlf:listed.toList[i]?=some false:=by
   have:i<listed.size:=by omega
   simp [this] at h0 ⊢
   exact h0
  obtain ⟨x,hx,hst⟩:=hstep i o ho
  unfold wpOp
  simp only [ho]
  refine hst e a w S _ Q r (fun k y hk=>?_) (fun e' a' w' r'=>?_)
  ·rcases availL_get hk with ⟨ed,h1,h2,h3⟩|h
   ·have h4:D[ed.on]?=some (some k,y):=by
     rw [List.getElem?_take] at h3
     split at h3
     ·exact h3
     ·cases h3
    exact hs ed.on k y (hpre ed (by simpa using h1) h2) h4
   ·exact hb k y h
  ·refine ih (listed.setIfInBounds i true) a' w' e' _ (by simpa using hsz) ?_ r' (fun k y hk=>?_) (fun j d y hj hy=>?_)
   ·rw [Array.toList_setIfInBounds]
    have hlt':i<listed.toList.length:=by simpa using (by omega:i<listed.size)
    have hg:listed.toList[i]=false:=by
     have:=List.getElem?_eq_getElem hlt'
     rw [hlf] at this
     simpa using this.symm
    rw [List.count_set hlt',hg,hc]
    simp
   ·cases hd:o.dst with
    | none=>exact hb k y hk
    | some d =>
     simp only [putS]
     rw [get_cons]
     by_cases h:d=k
     ·subst h
      rw [hbase i o d ho hd] at hk
      cases hk
     ·rw [if_neg h];exact hb k y hk
   ·by_cases hji:j=i
    ·subst hji
     rw [hx] at hy
     simp only [Option.some.injEq,Prod.mk.injEq] at hy
     rw [hy.1,hy.2]
     simp only [putS]
     rw [get_cons,if_pos rfl]
    ·rw [getD_set_ne false (Ne.symm hji)] at hj
     have hold:=hs j d y hj hy
     cases hd:o.dst with
     | none=>exact hold
     | some d' =>
      simp only [putS]
      rw [get_cons]
      by_cases h:d'=d
      ·exfalso
       subst h
       have hjl:j<ops.size:=by
        rw [← hD]
        rcases Nat.lt_or_ge j D.length with h|h
        ·exact h
        ·rw [List.getElem?_eq_none h] at hy;cases hy
       obtain ⟨x',hx',_⟩:=hstep j ops[j] (by simp [hjl])
       rw [hx'] at hy
       simp only [Option.some.injEq,Prod.mk.injEq] at hy
       exact hji (hdist j i ops[j] o d' (by simp [hjl]) ho hy.1 hd)
      ·rw [if_neg h];exact hold

def eraseD:List Oper→List (Nat×AV)→Option (List (Nat×AV))
 | [],s=>some s
 | o::r,s=>match o.dst with
  | none=>eraseD r s
  | some d=>normG (eraseS d s) fun s=>eraseD r s

theorem eraseD_get:∀ {l:List Oper} {s base:List (Nat×AV)} {k:Nat} {y:AV},eraseD l s=some base→get base k=some y→get s k=some y
 | [],s,base,k,y,h,hk=>by simp only [eraseD,Option.some.injEq] at h;subst h;exact hk
 | o::r,s,base,k,y,h,hk=>by
  simp only [eraseD] at h
  split at h
  ·exact eraseD_get h hk
  ·rw [normG_eq] at h
   have:=eraseD_get h hk
   rw [get_eraseS] at this
   split at this
   ·cases this
   ·exact this

theorem C_drawD {id:Nat} {Q:Exit→St→Prop} {s base:List (Nat×AV)} {c:List Ch} (hb:eraseD ops.toList s=some base) (hchk:chkD base 0 [] ops.toList=true)
  (h:SymD X n ops base c (fun s=>Q .normal s) ops.toList []):SymC X n (.region id ops true) ⟨s,c⟩ Q:=by
 intro e a w r
 have hbs:∀ k y,get base k=some y→get s k=some y:=fun k y hk=>eraseD_get hb hk
 obtain ⟨D,_,hl,hK,hs⟩:=h.plan
 obtain ⟨c1,c2⟩:=chkD_spec hchk
 have hbel:Below w.heap.size w { w with drawn:=w.drawn+1 }:=⟨rfl,rfl,rfl,Nat.le_refl _,fun _ _=>rfl⟩
 refine wp_region_any X.wide ?_
 refine any_of_D (X:=X) (Q:=concX X n Q) (n:=n) (base:=base) (c:=c) (D:=D) (by simpa using hl) (fun i o ho=>?_) (fun i o ho=>?_) (fun i j o o' d hi hj=>c2 i j o o' d (by simpa using hi) (by simpa using hj)) (fun i o d ho hd=>((c1 i o (by simpa using ho)).2 d hd).1)
  (fun e a w r=>⟨e,_,r,hK⟩) _ _ a _ e base (by simp) (by simp) ((r.below hbel).less hbs (fun h=>h)) (fun k y hk=>hk) (fun i d x hi=>?_)
 ·have:=hs i o (by simpa using ho)
  simpa using this
 ·simpa using (c1 i o (by simpa using ho)).1
 ·rcases Nat.lt_or_ge i ops.size with h|h
  ·simp [h] at hi
  ·simp [Nat.not_lt.2 h] at hi
end
end Go.Sy

namespace Go.Sy
open Go.RowKit

abbrev VEC {α:Type} [Inhabited α] (k t esz:Nat) (cells:α→List AV) (l:List α):Ch:=.vec k t esz l.length (fun i=>cells (l.getD i default))

theorem getD_snoc_lt {α:Type} {d:α} {l:List α} {x:α} {i:Nat} (h:i<l.length):(l++[x]).getD i d=l.getD i d:=by
 simp [List.getD,List.getElem?_append_left h]
theorem getD_snoc_eq {α:Type} {d:α} {l:List α} {x:α}:(l++[x]).getD l.length d=x:=by
 simp [List.getD]

section
variable {P:Program} {T:Tab} {X:Ctx P T} {n:Nat} {e:Env} {st:St} {a:Act} {w:World} {ops:Array Oper} {K:St→Prop}

theorem O_push {α:Type} [Inhabited α] (cells:α→List AV) (l:List α) (x:α) {dst:Nat} {so_ xo:Operand} {t ty:TypeId} {pos:String} {aft:Array Edge} {rest:List Oper} {s:List (Nat×AV)} {c r1 r2:List Ch} {k j:Nat} {el esz:Nat} {row2:Nat→List AV} {by_:Nat} {sz0 b0:Nat} {ag0 ag1:Bool} {z0 z1:List Value} {d1:TD}
  (s2:List (Nat×AV))
  (hTs:T t=some ⟨sz0,b0,ag0,z0,.slice el⟩) (hTe:T el=some ⟨esz,by_,ag1,z1,d1⟩) (hpos:Nat.blt 0 esz=true)
  (hso:opd s so_=some (.own k)) (hk:takeCh k c=some (VEC k el esz cells l,r1))
  (hxo:opd s xo=some (.own j)) (hj:takeCh j c=some (.vec j el esz 1 row2,r2)) (hx:row2 0=cells x) (hxl:(cells x).length=esz)
  (hd:Nat.blt dst n=true) (hs2:subS s2 s) (hf:freshS dst s2=true) (hfc:freshC dst r1=true)
  (hlen:(l.length+1)*by_≤140737488355328) (hlen2:l.length+1≤maxLen)
  (h:SymO X n ops rest ⟨(dst,.own dst)::s2,VEC dst el esz cells (l++[x])::r1⟩ K) :
  SymO X n ops (⟨some dst,.call ⟨.builtin .append,#[so_,xo],#[t,t]⟩,ty,pos,aft,none⟩::rest) ⟨s,c⟩ K:=by
 have hr2:∀ i,i<1→(row2 i).length=esz:=fun i hi=>by
  obtain rfl:i=0:=by omega
  rw [hx];exact hxl
 refine O_append (m3:=(l++[x]).length) (row3:=fun i=>cells ((l++[x]).getD i default)) (m2:=1) (row2:=row2) (s2:=s2) hTs hTe hpos hso hk (src_own hxo hj hr2) hd hs2 hf hfc hlen hlen2 (by simp) (fun i hi=>?_) h
 simp only [List.length_append,List.length_singleton] at hi
 unfold appRow
 by_cases h:i<l.length
 ·rw [if_pos h]
  simp only [getD_snoc_lt h]
 ·rw [if_neg h]
  obtain rfl:i=l.length:=by omega
  rw [Nat.sub_self,hx]
  simp only [getD_snoc_eq]

theorem Le.nilvec {α:Type} [Inhabited α] (cells:α→List AV) {s:List (Nat×AV)} {c:List Ch} (i d:Nat) (t:TypeId) (esz:Nat) (hi:get s i=some (.v (.slice none 0 0))) (hf:freshS d s=true) (hc:freshC d c=true) :
  Le X n ⟨s,c⟩ ⟨(i,.own d)::s,VEC d t esz cells ([]:List α)::c⟩:=Le.nilown i d t esz _ hi hf hc

theorem Le.freezeL {α:Type} [Inhabited α] {cells:α→List AV} {l:List α} {s:List (Nat×AV)} {c rest:List Ch} (i:Nat) {k:Nat} {t:TypeId} {esz:Nat} (hi:get s i=some (.own k)) (hk:takeCh k c=some (VEC k t esz cells l,rest)) :
  Le X n ⟨s,c⟩ ⟨(i,SL esz cells l)::s,rest⟩:=Le.freeze i hi hk

theorem O_join {l:List Oper} (s2:St) (h1:SymO X n ops l st (fun s=>Le X n s s2)) (h2:∀ s,Le X n s s2→K s):SymO X n ops l st K :=
 fun e a w Q r hq=>h1 e a w Q r (fun e' st' a' w' hk hr=>hq e' st' a' w' (h2 st' hk) hr)

end
end Go.Sy

namespace Go.Sy
open Go.RowKit

def buildA (T:Tab) (st:St):Op→Option AV
 | .build t parts=>(match T t with
  | some ⟨_,_,_,zero,.struct fs⟩=>(match opdP st.s parts.toList with
   | some ps=>(match fillA (fs[·]?) (zero.map constA) ps with
    | some cs=>some (.agg cs)
    | none=>none)
   | none=>none)
  | _=>none)
 | _=>none

section
variable {P:Program} {T:Tab} {X:Ctx P T} {n:Nat} {e:Env} {st:St} {a:Act} {w:World} {ops:Array Oper} {K:St→Prop}

theorem buildA_sound (r:Rel X n e st a w) {o:Oper} {av:AV} (h:buildA T st o.op=some av):∃ v,Rep e av v∧∀ w',(execOp a.eval o).run P w'=.ok (.value v) w':=by
 have hT:=X.ok
 obtain ⟨dst,op,ty,pos,aft,gd⟩:=o
 simp only at h
 unfold buildA at h
 split at h
 ·rename_i t parts
  split at h
  ·rename_i sz by_ ag zero fs hTt
   split at h
   ·rename_i ps hps
    split at h
    ·rename_i cs hcs
     simp only [Option.some.injEq] at h
     subst h
     obtain ⟨pi,z,g1,g2,g3,g4,g5,g6,g7⟩:=(hT _ _ hTt).info
     obtain ⟨d,e1,_,e3⟩:=(hT _ _ hTt).desc
     simp only [TDOK] at e3
     obtain ⟨fields,rfl,e4,e5⟩:=e3
     obtain ⟨q1,q2⟩:=opdP_sound r hps
     simp only at g5 g6
     have hplace:∀ (i:Nat) (q:Nat×Nat),fs[i]?=some q→(fields.map fun f=>(f.offset,P.cellsOf f.type))[i]?=some q:=by
      intro i q hq
      rw [← e4] at hq
      simpa using hq
     obtain ⟨out,o1,o2⟩:=fill_sound (e:=e) hplace ps (parts.toList.map fun (i,x)=>(i,a.eval x)) _ z.cells cs (by simp [q1]) q2 (by rw [g5];exact zero_sound e g6) hcs
     refine ⟨.agg out,by simp only [Rep];exact ⟨_,rfl,o2⟩,fun w'=>?_⟩
     have hmm:=run_places (w:=w') fields e5
     simp only [execOp,Instr.build,Sem.run_bind,zeroValue,typeInfo,run_program,Result.andThen_ok,g1,Sem.run_pure,g4,run_underlying e1,hmm,Array.toList_map]
     rw [o1]
     rfl
    ·cases h
   ·cases h
  ·cases h
 ·cases h

theorem D_val {base:List (Nat×AV)} {c:List Ch} {o:Oper} {rest:List Oper} {done:Done} (x:AV) (hg:guardA ops ⟨availL done o.after.toList base,c⟩ o=some true) (hd:dstOK n o.dst=true)
  (hrun:∀ e a w,Rel X n e ⟨availL done o.after.toList base,c⟩ a w→∃ v,Rep e x v∧∀ w',SameAs w w'→(execOp a.eval o).run P w'=.ok (.value v) w')
  (k:SymD X n ops base c K rest (done++[(o.dst,x)])):SymD X n ops base c K (o::rest) done:=by
 refine ⟨x,fun e a w S K' Q r hS hk=>?_,k⟩
 have r':Rel X n e ⟨availL done o.after.toList base,c⟩ a w:=r.less hS (fun h=>h)
 rw [if_pos (guardA_sound r' hg)]
 obtain ⟨v,h2,h1⟩:=hrun e a w r'
 refine .inl ?_
 unfold Oper.wp
 rw [h1 w (SameAs.refl w)]
 exact hk _ _ _ (putOK r hd h2)

end
end Go.Sy

namespace Go.Sy
open Go.RowKit

def bslA (T:Tab) (st:St):Op→Option (Nat×Nat×Nat×List AV)
 | .buildSlice t len parts=>(match T t,opdP st.s parts.toList with
  | some ⟨_,_,_,_,.slice el⟩,some ps=>(match T el with
   | some ti=>(match fillA (fun i=>some (i*ti.size,ti.size)) (baseA ti.zero (len*ti.size)) ps with
    | some cs=>(match Nat.ble (len*ti.size) 16777216&&Nat.blt 0 ti.size&&Nat.blt 0 (len*ti.size)&&AV.imm.immL cs with
     | true=>some (el,ti.size,len,cs)
     | false=>none)
    | none=>none)
   | none=>none)
  | _,_=>none)
 | _=>none

section
variable {P:Program} {T:Tab} {X:Ctx P T} {n:Nat} {e:Env} {st:St} {a:Act} {w:World} {ops:Array Oper} {K:St→Prop}

theorem bslA_sound (r:Rel X n e st a w) {o:Oper} {el esz len:Nat} {cs:List AV} (h:bslA T st o.op=some (el,esz,len,cs)) :
  ∃ arr:Array Value,arr.size=len*esz∧len≤maxLen∧RowsL e.G esz len (chunkRow esz cs) arr.toList ∧
   ∀ w',(execOp a.eval o).run P w'=.ok (.value (.slice (some ⟨w'.heap.size,0,none⟩) len len)) (w'.alloc (.cells arr el)):=by
 have hT:=X.ok
 obtain ⟨dst,op,ty,pos,aft,gd⟩:=o
 simp only at h
 unfold bslA at h
 split at h
 ·rename_i t len parts
  split at h
  ·rename_i sz by_ ag zero el ps hTt hps
   split at h
   ·rename_i ti hTe
    split at h
    ·rename_i cs hcs
     split at h
     ·rename_i hok
      simp only [Bool.and_eq_true] at hok
      obtain ⟨⟨⟨k1,k2⟩,k4⟩,k3⟩:=hok
      have k4:0<len*ti.size:=by have:=k4;simp only [Nat.blt] at this;have:=Nat.le_of_ble_eq_true this;omega
      have k1:=Nat.le_of_ble_eq_true k1
      have k2:0<ti.size:=by have:=k2;simp only [Nat.blt] at this;have:=Nat.le_of_ble_eq_true this;omega
      obtain ⟨pi,z,g1,g2,g3,g4,g5,g6,g7⟩:=(hT _ _ hTe).info
      obtain ⟨dd,e1,_,e3⟩:=(hT _ _ hTt).desc
      simp only [TDOK] at e3
      subst e3
      obtain ⟨q1,q2⟩:=opdP_sound r hps
      have hzs:z.cells.size=ti.size:=by
       have:z.cells.toList.length=ti.size:=by rw [g5];exact g7
       simpa using this
      have hbase:RepL e (baseA ti.zero (len*ti.size)) ((Array.range (len*ti.size)).map (fun j=>z.cells[j % z.cells.size]!)).toList:=by
       refine RepL.mk (by simp [baseA]) (fun j c hc=>?_)
       unfold baseA at hc
       rw [List.getElem?_map] at hc
       have hj:j<len*ti.size:=by
        rcases Nat.lt_or_ge j (len*ti.size) with h|h
        ·exact h
        ·rw [List.getElem?_eq_none (by simpa using h)] at hc;cases hc
       rw [List.getElem?_range hj] at hc
       simp only [Option.map_some,Option.some.injEq] at hc
       subst hc
       have hlt:j % z.cells.size<z.cells.size:=Nat.mod_lt _ (by omega)
       have hge:ti.zero.getD (j % ti.zero.length) undef=z.cells[j % z.cells.size]!:=by
        have hlen:ti.zero.length=z.cells.size:=by rw [g7,hzs]
        rw [hlen,← g5]
        simp [List.getD,hlt]
       refine ⟨z.cells[j % z.cells.size]!,by simp [hj],by rw [hge];exact constA_sound e,?_⟩
       have hmem:z.cells[j % z.cells.size]!∈ti.zero:=by
        rw [← g5,getElem!_pos z.cells _ hlt]
        simp
       exact (List.all_eq_true.1 g6) _ hmem
      have hplace:∀ (i:Nat) (q:Nat×Nat),(fun i=>some (i*ti.size,ti.size)) i=some q→(fun i=>some (i*ti.size,ti.size)) i=some q:=fun _ _ h=>h
      obtain ⟨out,o1,o2⟩:=fill_sound (e:=e) hplace ps (parts.toList.map fun (i,x)=>(i,a.eval x)) _ _ cs (by simp [q1]) q2 hbase hcs
      have hfl:∀ (parts:List (Nat×AV)) (cells res:List AV),fillA (fun i=>some (i*ti.size,ti.size)) cells parts=some res→res.length=cells.length:=by
       intro parts
       induction parts with
       | nil=>intro cells res h;simp only [fillA,Option.some.injEq] at h;rw [h]
       | cons p parts ih =>
        intro cells res h
        obtain ⟨i,x⟩:=p
        simp only [fillA] at h
        split at h
        ·rename_i hok2
         simp only [Bool.and_eq_true] at hok2
         have u1:=Nat.eq_of_beq_eq_true hok2.1.1
         have u2:=Nat.le_of_ble_eq_true hok2.1.2
         rw [normL_eq] at h
         rw [ih _ _ h]
         simp [splice]
         omega
        ·cases h
      have hcl:cs.length=len*ti.size:=by rw [hfl _ _ _ hcs];simp [baseA]
      have hol:out.size=len*ti.size:=by have:=RepL.len o2;simp at this;omega
      simp only [Option.some.injEq,Prod.mk.injEq] at h
      obtain ⟨rfl,rfl,rfl,rfl⟩:=h
      have hm:len≤maxLen:=by
       have:len*1≤len*ti.size:=Nat.mul_le_mul_left _ k2
       simp only [maxLen];omega
      refine ⟨out,hol,hm,rows_chunk (RepL.toI cs k3 o2) hcl,fun w'=>?_⟩
      have hn0:¬ len*ti.size > 2 ^ 24:=by omega
      simp only [execOp,Instr.buildSlice,Sem.run_bind,run_underlying e1,Result.andThen_ok,hT.size hTe,hn0,if_false,Sem.run_pure]
      have hz:¬ len*ti.size=0:=by omega
      simp only [hz,if_false,Sem.run_bind,zeroValue,typeInfo,run_program,Result.andThen_ok,g1,Sem.run_pure,g4,Array.toList_map,newRow]
      rw [o1]
      rfl
     ·cases h
    ·cases h
   ·cases h
  ·cases h
 ·cases h

def stepDS {P:Program} {T:Tab} (X:Ctx P T) (n:Nat) (ops:Array Oper) (base:List (Nat×AV)) (c:List Ch) (K:St→Prop):List Oper→Done→Option Prop
 | [],_=>none
 | o::rest,done=>normG (availL done o.after.toList base) fun Si=>match guardA ops ⟨Si,c⟩ o,dstOK n o.dst,bslA T ⟨Si,c⟩ o.op with
  | some true,true,some (el,esz,len,cs)=>normL cs fun cs=>normG (done++[(o.dst,.sl len esz (chunkRow esz cs))]) fun done=>some (SymD X n ops base c K rest done)
  | _,_,_=>none

theorem sds {base:List (Nat×AV)} {c:List Ch} {l:List Oper} {done:Done} {p:Prop} (h:stepDS X n ops base c K l done=some p) (hp:p):SymD X n ops base c K l done:=by
 cases l with
 | nil=>simp [stepDS] at h
 | cons o rest =>
  simp only [stepDS,normG_eq] at h
  split at h
  ·rename_i el esz len cs hg hd hb
   simp only [normL_eq,normG_eq,Option.some.injEq] at h
   subst h
   refine ⟨_,fun e a w S K' Q r hS hk=>?_,hp⟩
   have r':Rel X n e ⟨availL done o.after.toList base,c⟩ a w:=r.less hS (fun h=>h)
   rw [if_pos (guardA_sound r' hg)]
   obtain ⟨arr,b1,b2,b3,b4⟩:=bslA_sound r' hb
   refine .inl ?_
   unfold Oper.wp
   rw [b4 w]
   let G':IM:=⟨fun b oo=>if b=w.heap.size then arr.toList[oo]? else e.G b oo,e.G.m⟩
   have hlt:∀ b o v,e.G b o=some v→b<w.heap.size:=fun b o v h=>Go.block_lt_of_cell (r.im b o v h)
   have hle:IM.le e.G G':=by
    refine ⟨?_,fun _ _ h=>h⟩
    intro b o v hv
    show (if b=w.heap.size then arr.toList[o]? else e.G b o)=some v
    rw [if_neg (by have:=hlt b o v hv;omega)]
    exact hv
   have hnew:(w.alloc (.cells arr el)).heap[w.heap.size]?=some (.cells arr el (0,0)):=Go.heap_alloc_new w _
   have him:ImOK G' (w.alloc (.cells arr el)):=by
    refine ⟨?_,fun b x hx=>(r.mz b x hx).keep (H:=G') hle (Go.heap_alloc_old w _ (r.mz b x hx).lt) (fun o v hv=>⟨v,by
     have hv':(if b=w.heap.size then arr.toList[o]? else e.G b o)=some v:=hv
     rw [if_neg (by have:=(r.mz b x hx).lt;omega)] at hv'
     exact hv'⟩)⟩
    intro b o v hv
    have hv':(if b=w.heap.size then arr.toList[o]? else e.G b o)=some v:=hv
    split at hv'
    ·rename_i hb;subst hb
     rw [cell_of_row _ _ o arr el (0,0) hnew]
     simpa using hv'
    ·have h1:=r.im b o v hv'
     simp only [World.cell?] at h1 ⊢
     rw [Go.heap_alloc_old w _ (hlt b o v hv')]
     exact h1
   have r2:=r.after hle ⟨fun b o v hv=>by
    have hv':(if b=w.heap.size then arr.toList[o]? else e.G b o)=some v:=hv
    split at hv'
    ·rename_i hb;exact .inr (by omega)
    ·exact .inl hv',fun _ _ h=>.inl h⟩ him ⟨rfl,rfl,rfl,by simp,fun b hb _=>Go.heap_alloc_old w _ hb⟩
   refine hk _ _ _ (putOK r2 hd ?_)
   simp only [Rep,RepI]
   refine ⟨_,len,rfl,Nat.le_refl _,.inr ⟨w.heap.size,0,rfl,fun q hq=>CellsAt.mk (fun j x hx=>?_)⟩⟩
   obtain ⟨z,z1,z2,z3⟩:=(b3 q hq).get j x hx
   have hj:j<esz:=by
    rcases Nat.lt_or_ge j esz with h|h
    ·exact h
    ·rw [List.getElem?_eq_none (by simp;omega)] at z1;cases z1
   refine ⟨z,?_,RepI.mono hle x z2,z3⟩
   show (if w.heap.size=w.heap.size then arr.toList[0+q*esz+j]? else _)=some z
   rw [if_pos rfl,Nat.zero_add]
   rw [List.getElem?_take,if_pos hj,List.getElem?_drop] at z1
   exact z1
  ·cases h

theorem C_scope {X:Ctx P T} {n:Nat} {st:St} {c:Code} {Q:Exit→St→Prop} (h:SymC X n c st (fun ex s=>match ex with
  | .goto _=>False
  | ex=>Q ex s)):SymC X n (.scope c) st Q:=by
 intro e a w r
 refine wp_scope_straight (Code.wp_mono (fun ex a' w' hc=>?_) (h e a w r))
 cases ex with
 | goto l=>obtain ⟨e',st',h1,h2⟩:=hc;exact h2.elim
 | normal=>exact hc
 | exit id=>exact hc
 | ret=>exact hc
 | panic ch=>exact hc
 | outgrown=>exact hc
end

def flatL:List AV→Option (List Value)
 | []=>some []
 | x::xs=>match flatV x,flatL xs with
  | some v,some vs=>some (v::vs)
  | _,_=>none
theorem flatL_sound {G:IM}:∀ {avs:List AV} {vs cargs:List Value},flatL avs=some vs→RepIT G avs cargs→cargs=vs
 | [],vs,cargs,h,r=>by simp only [flatL,Option.some.injEq] at h;subst h;simpa [RepIT] using r
 | x::xs,vs,cargs,h,r=>by
  simp only [flatL] at h
  split at h
  ·rename_i v vs' h1 h2
   simp only [Option.some.injEq] at h
   subst h
   simp only [RepIT] at r
   obtain ⟨z,zs,rfl,r1,r2⟩:=r
   rw [(flatV_sound h1 r1).1,flatL_sound h2 r2]
  ·cases h

theorem FnP.ofCalls {P:Program} {f:FuncId} {avs:List AV} {vs:List Value} {x:AV} {v:Value} (hc:Callable P f) (ha:flatL avs=some vs) (hx:flatV x=some v) (hxi:∀ G,RepI G x v)
  (h:∀ w,Calls P f vs.toArray w fun e w'=>e=.returned v∧Below w.heap.size w w'):FnP P f avs (·=x):=by
 refine ⟨hc,fun G w cargs him hr=>?_⟩
 rw [flatL_sound ha hr]
 refine (h w).mono ?_
 rintro e w' ⟨rfl,hb⟩
 exact ⟨x,v,G,rfl,rfl,hxi G,IM.le_refl _,NewIn.refl _ _,⟨fun b o u hu=>by
  have h1:=him.1 b o u hu
  have h2:=Go.block_lt_of_cell h1
  simp only [World.cell?] at h1 ⊢
  rw [hb.block b h2]
  exact h1,fun b x hx=>(him.2 b x hx).keep0 (hb.block b (him.2 b x hx).lt)⟩,.of hb⟩
end Go.Sy

namespace Go.Sy
open Go.RowKit

abbrev U8c (b:UInt8):List AV:=[.v (.int .u8 (b.toNat:Int))]

section
variable {P:Program} {T:Tab} {X:Ctx P T} {n:Nat} {e:Env} {st:St} {a:Act} {w:World} {ops:Array Oper} {K:St→Prop}

theorem text_run (r:Rel X n e st a w) {src dst':TypeId} {x:Operand} {dst:Option Tmp} {ty:TypeId} {pos:String} {aft:Array Edge} {gd:Option (Nat×Bool)} {l:List UInt8} {b off cap el:Nat} {s1 s2 s3 s4 s5 s6:Nat} {g1 g2 g3:Bool} {z1 z2 z3:List Value}
  (t1:T src=some ⟨s1,s2,g1,z1,.slice el⟩) (t2:T dst'=some ⟨s3,s4,g2,z2,.str⟩) (t3:T el=some ⟨s5,s6,g3,z3,.int .u8⟩)
  (hx:a.eval x=.slice (some ⟨b,off,none⟩) l.length cap) (hr:∀ i,i<l.length→Readable e w b (off+i) (U8c (l.getD i default))) :
  ∀ w',SameAs w w'→(execOp a.eval ⟨dst,.convert src dst' x,ty,pos,aft,gd⟩).run P w'=.ok (.value (S l)) w':=by
 have hT:=X.ok
 obtain ⟨d1,e1,_,e2⟩:=(hT _ _ t1).desc
 obtain ⟨d2,e3,_,e4⟩:=(hT _ _ t2).desc
 obtain ⟨d3,e5,_,e6⟩:=(hT _ _ t3).desc
 simp only [TDOK] at e2 e4 e6
 subst e2 e4 e6
 intro w' hs
 have:=run_convert_bytes_arg (P:=P) w' src el e1 e5 b off l.length cap (l.map (fun b=>(b.toNat:Int))) (by simp) (fun i hi=>by
  obtain ⟨z,z1,z2,z3⟩:=hr i hi 0 _ rfl
  simp only [Rep] at z2
  subst z2
  have hg:(l.map (fun b=>(b.toNat:Int))).getD i 0=((l.getD i default).toNat:Int):=by
   simp [List.getD,List.getElem?_eq_getElem hi]
  rw [hg]
  exact hs.cell z1) dst' e3
 simp only [execOp,hx,Sem.run_bind,this,Result.andThen_ok,Sem.run_pure]
 unfold strOfNums S
 have hid:(l.map (fun b=>(b.toNat:Int))).map (fun n=>UInt8.ofNat n.toNat)=l:=by
  rw [List.map_map]
  conv=>rhs;rw [← List.map_id l]
  refine List.map_congr_left (fun b _=>?_)
  simp
 rw [hid]

theorem O_text (l:List UInt8) {dst:Nat} {src dst':TypeId} {x:Operand} {ty:TypeId} {pos:String} {aft:Array Edge} {rest:List Oper} {s:List (Nat×AV)} {c r1:List Ch} {k tt el:Nat} {s1 s2 s3 s4 s5 s6:Nat} {g1 g2 g3:Bool} {z1 z2 z3:List Value}
  (t1:T src=some ⟨s1,s2,g1,z1,.slice el⟩) (t2:T dst'=some ⟨s3,s4,g2,z2,.str⟩) (t3:T el=some ⟨s5,s6,g3,z3,.int .u8⟩)
  (hx:opd s x=some (.own k)) (hk:takeCh k c=some (VEC k tt 1 U8c l,r1)) (hl:0<l.length) (hd:Nat.blt dst n=true)
  (h:SymO X n ops rest ⟨(dst,.s l)::s,c⟩ K) :
  SymO X n ops (⟨some dst,.convert src dst' x,ty,pos,aft,none⟩::rest) ⟨s,c⟩ K:=by
 intro e a w Q r hq
 have h0:=opd_sound r hx
 simp only [Rep] at h0
 obtain ⟨hx',_⟩:=h0
 obtain ⟨cap,e1,_⟩:=r.heap.vecread hk (i:=0) hl
 rw [e1] at hx'
 have hrun:=text_run (dst:=some dst) (ty:=ty) (pos:=pos) (aft:=aft) (gd:=none) r t1 t2 t3 hx' (fun i hi=>by
  obtain ⟨_,_,e2⟩:=r.heap.vecread hk (i:=i) hi
  simpa using e2)
 unfold wpList
 rw [if_pos (guardA_sound r (o:=⟨some dst,.convert src dst' x,ty,pos,aft,none⟩) (b:=true) rfl)]
 refine .inl ?_
 unfold Oper.wp
 rw [hrun w (SameAs.refl w)]
 exact h e _ w Q (r.put hd Rep_s) hq
end
end Go.Sy

namespace Go.Sy
open Go.RowKit

section
variable {P:Program} {T:Tab} {X:Ctx P T} {n:Nat} {e:Env} {st:St} {a:Act} {w:World} {ops:Array Oper} {K:St→Prop}

theorem Le.freezebox {s:List (Nat×AV)} {c rest:List Ch} (i:Nat) {k kk:Nat} {t:TypeId} {cells:List AV} (hi:get s i=some (.bp k 0)) (hk:takeCh k c=some (.box kk t cells,rest)) (himm:AV.imm.immL cells=true) :
  Le X n ⟨s,c⟩ ⟨(i,.cp cells)::s,rest⟩:=by
 intro e a w r
 have hkk:kk=k:=kid_of_take hk
 subst hkk
 have hh:=r.heap.perm (takeCh_perm hk)
 obtain ⟨bs,⟨hbs,arr,g1,g2⟩,_,hgood⟩:=hh.head
 obtain ⟨v,h1,h2⟩:=r.slots i _ hi
 simp only [Rep] at h2
 subst h2
 have hGg:e.G.free (e.μ kk):=(hgood (e.μ kk) (by rw [hbs];simp)).2.2
 let G':IM:=⟨fun b o=>if b=e.μ kk then arr.toList[o]? else e.G b o,e.G.m⟩
 have hle:IM.le e.G G':=by
  refine ⟨?_,fun _ _ h=>h⟩
  intro b o v hv
  show (if b=e.μ kk then arr.toList[o]? else e.G b o)=some v
  rw [if_neg]
  ·exact hv
  ·rintro rfl;rw [hGg.1 o] at hv;cases hv
 have hnew:∀ b o v,G' b o=some v→e.G b o=some v∨b∈bs:=by
  intro b o v hv
  have hv':(if b=e.μ kk then arr.toList[o]? else e.G b o)=some v:=hv
  split at hv'
  ·rename_i hc;rw [hbs,hc];exact .inr (by simp)
  ·exact .inl hv'
 refine ⟨{ e with G:=G' },{ r with slots:=?sl,heap:=?hp,im:=?im,mz:=?mz,newm:=r.newm,le:=IM.le_trans r.le hle,new:=?nw }⟩
 case sl =>
  intro j x hx
  rw [get_cons] at hx
  by_cases hij:i=j
  ·subst hij
   simp only [if_true,Option.some.injEq] at hx
   subst hx
   refine ⟨_,h1,?_⟩
   simp only [Rep,RepI]
   refine ⟨e.μ kk,0,rfl,CellsAt.mk (fun j x hx=>?_)⟩
   obtain ⟨z,z1,z2,z3⟩:=(RepL.toI cells himm g2).get j x hx
   refine ⟨z,?_,RepI.mono hle x z2,z3⟩
   show (if e.μ kk=e.μ kk then arr.toList[0+j]? else e.G (e.μ kk) (0+j))=some z
   rw [if_pos rfl,Nat.zero_add]
   exact z1
  ·rw [if_neg hij] at hx
   obtain ⟨v,q1,q2⟩:=r.slots j x hx
   exact ⟨v,q1,Rep.mono (e:=e) (f:={ e with G:=G' }) hle x (fun q _=>⟨rfl,rfl⟩) q2⟩
 case hp =>
  obtain ⟨pl,p1,p2,p3,p4⟩:=hh
  cases pl with
  | nil=>simp at p1
  | cons p pl =>
   simp only [List.map_cons,List.cons.injEq] at p1
   simp only [List.flatMap_cons] at p3 p4
   have hp:=p2 p (List.mem_cons_self ..)
   rw [p1.1] at hp
   have hpb:p.2=bs:=by rw [hp.1,hbs]
   obtain ⟨q1,q2,q3⟩:=List.nodup_append.1 p3
   refine ⟨pl,p1.2,fun q hq=>ChOK.keep (e:=e) hle q.1 (fun j _=>⟨rfl,rfl⟩) (fun b _=>rfl) (p2 q (List.mem_cons_of_mem _ hq)),q2,fun b hb=>?_⟩
   obtain ⟨s1,s2,s3⟩:=p4 b (List.mem_append.2 (.inr hb))
   refine ⟨s1,s2,fun o=>?_,s3.2⟩
   show G' b o=none
   cases hg:G' b o with
   | none=>rfl
   | some v =>
    rcases hnew b o v hg with h|h
    ·rw [s3.1 o] at h;cases h
    ·rw [← hpb] at h;exact absurd rfl (q3 b h b hb)
 case im =>
  intro b o v hv
  have hv':(if b=e.μ kk then arr.toList[o]? else e.G b o)=some v:=hv
  split at hv'
  ·rename_i hc
   subst hc
   rw [cell_of_row w _ o arr t (0,0) g1]
   simpa using hv'
  ·exact r.im b o v hv'
 case mz =>
  intro b x hx
  refine (r.mz b x hx).keep (H:=G') hle rfl (fun o v hv=>?_)
  have hv':(if b=e.μ kk then arr.toList[o]? else e.G b o)=some v:=hv
  split at hv'
  ·rename_i hc
   rw [hc,hGg.2] at hx;cases hx
  ·exact ⟨v,hv'⟩
 case nw =>
  intro b o v hv
  rcases hnew b o v hv with h|h
  ·exact r.new b o v h
  ·exact .inr (hgood b h).2.1

end
end Go.Sy

namespace Go.Sy
open Go.RowKit

section
variable {P:Program} {T:Tab} {X:Ctx P T} {n:Nat} {e:Env} {st:St} {a:Act} {w:World} {ops:Array Oper} {K:St→Prop}

theorem Rel.allocObj (r : Rel X n e st a w) {d : Nat} {o : Obj} (hd : Nat.blt d n = true) (hf : freshS d st.s = true) (hc : freshC d st.c = true) :
    Rel X n { e with μ := upd e.μ d w.heap.size } ⟨(d, .bp d 0) :: st.s, .obj d o :: st.c⟩ (a.put (some d) (.pointer (some ⟨w.heap.size, 0, none⟩))) (w.alloc o) := by
  have hid : ∀ (k : Nat), k ≠ d → upd e.μ d w.heap.size k = e.μ k := fun k hk => by simp [upd, hk]
  have hnod : ∀ {x : AV}, x.no d = true → ∀ j, x.no j = false → j ≠ d := fun hx j hj he => by subst he; rw [hx] at hj; cases hj
  have hGlt : ∀ b o v, e.G b o = some v → b < w.heap.size := fun b o v h => by
    have := block_lt_of_cell (r.im b o v h); exact this
  have r1 : Rel X n { e with μ := upd e.μ d w.heap.size } ⟨st.s, .obj d o :: st.c⟩ a (w.alloc o) :=
    { defers := r.defers
      size := r.size
      slots := fun i x h => by
        obtain ⟨v, h1, h2⟩ := r.slots i x h
        exact ⟨v, h1, Rep.mono (e := e) (f := { e with μ := upd e.μ d w.heap.size }) (IM.le_refl _) x (fun j hj => ⟨hid j (hnod (freshS_get hf i x h) j hj), rfl⟩) h2⟩
      im := fun b o v h => by
        have h1 := r.im b o v h
        have h2 := hGlt b o v h
        simp only [World.cell?] at h1 ⊢
        rw [Go.heap_alloc_old w _ h2]
        exact h1
      heap := by
        refine HeapOK.push r.heap (IM.le_refl _) (fun c hcm j hj => ⟨hid j ?_, rfl⟩) (fun b hb => Go.heap_alloc_old w _ hb) (bs' := [w.heap.size]) ?_ (by simp) (by simp) ?_ (by simp) (fun b _ h => h)
        · intro he; subst he; rw [freshC_mem hc c hcm] at hj; cases hj
        · refine ⟨by simp [upd], ?_⟩
          simp only [upd, if_true]; exact Go.heap_alloc_new w _
        · intro b hb
          simp only [List.mem_singleton] at hb
          subst hb
          exact ⟨by simp, .inl r.sz, r.free (Nat.le_refl _)⟩
      mz := r.mzKeep (fun b hb _ => Go.heap_alloc_old w _ hb)
      newm := r.newm
      le := r.le
      new := r.new
      os := r.os
      tape := r.tape
      output := r.output
      sz := by have := r.sz; simp; omega
      keep := fun b hb hbs hs => by rw [Go.heap_alloc_old w _ (by have := r.sz; omega)]; exact r.keep b hb hbs hs
      fix := fun k hk => by rw [show ({ e with μ := upd e.μ d w.heap.size } : Env).μ k = e.μ k from hid k (by simp [Nat.blt] at hd; omega)]; exact r.fix k hk }
  have := r1.put (d := d) (x := .bp d 0) (v := .pointer (some ⟨w.heap.size, 0, none⟩)) hd (by simp [Rep, upd])
  exact this

def setO (w:World) (b:Nat) (o:Obj):World:={ w with heap:=w.heap.setIfInBounds b o }
theorem setO_other {w:World} {b c:Nat} {o:Obj} (h:c≠b):(setO w b o).heap[c]?=w.heap[c]?:=by
 simp only [setO];rw [Array.getElem?_setIfInBounds_ne (Ne.symm h)]
theorem setO_size {w:World} {b:Nat} {o:Obj}:(setO w b o).heap.size=w.heap.size:=by simp [setO]

theorem Rel.writeObj (r:Rel X n e st a w) {k:Nat} {o o':Obj} {rest:List Ch} (hk:takeCh k st.c=some (.obj k o,rest)) :
  w.heap[e.μ k]?=some o∧Rel X n e ⟨st.s,.obj k o'::rest⟩ a (setO w (e.μ k) o'):=by
 have hh:=r.heap.perm (takeCh_perm hk)
 obtain ⟨bs,⟨hbs,g1⟩,_,hgood⟩:=hh.head
 have hGk:e.G.free (e.μ k):=(hgood (e.μ k) (by rw [hbs];simp)).2.2
 have hlt:=(hgood (e.μ k) (by rw [hbs];simp)).1
 refine ⟨g1,{ r with defers:=r.defers,size:=r.size,slots:=r.slots,im:=?_,mz:=r.mzKeep (fun b _ hb=>setO_other (fun he=>hb (by rw [he];exact hGk))),heap:=?_,os:=r.os,tape:=r.tape,output:=r.output,sz:=by rw [setO_size];exact r.sz,keep:=?_ }⟩
 ·intro b oo v h
  have hne:b≠e.μ k:=fun he=>by subst he;rw [hGk.1 oo] at h;cases h
  have h1:=r.im b oo v h
  simp only [World.cell?] at h1 ⊢
  rw [setO_other hne]
  exact h1
 ·refine HeapOK.update hh (IM.le_refl _) (fun _ _ _ _=>⟨rfl,rfl⟩) ?_ (by rw [setO_size];exact Nat.le_refl _) (fun _ _ _ h=>h)
  intro bs' hc hnd hg
  obtain ⟨rfl,_⟩:=hc
  refine ⟨fun b _ hb=>setO_other (by simpa using hb),[e.μ k],⟨rfl,?_⟩,by simp,fun b hb=>.inl hb,fun b hb=>?_⟩
  ·simp [setO,hlt]
  ·obtain ⟨q1,q2,q3⟩:=hg b hb
   exact ⟨by rw [setO_size];exact q1,q2,q3⟩
 ·intro b hb hbs' hs
  have hne:b≠e.μ k:=by
   intro he
   subst he
   rcases (hgood (e.μ k) (by rw [hbs];simp)).2.1 with h|h
   ·omega
   ·exact hbs' h
  rw [setO_other hne]
  exact r.keep b hb hbs' hs

theorem O_range {t:Nat} {i:TI} {x:Operand} {d:Nat} {ty:TypeId} {pos:String} {aft:Array Edge} {gd:Option (Nat×Bool)} {rest:List Oper} {l:List UInt8} {s:List (Nat×AV)} {c:List Ch}
  (hg:guardA ops ⟨s,c⟩ ⟨some d,.range t x,ty,pos,aft,gd⟩=some true) (hT:T t=some i) (hi:i.d=.str) (hx:opd s x=some (.s l)) (hd:Nat.blt d n=true) (hf:freshS d s=true) (hc:freshC d c=true)
  (k:SymO X n ops rest ⟨(d,.bp d 0)::s,.obj d (.stringIter ⟨l.toArray⟩ 0)::c⟩ K) :
  SymO X n ops (⟨some d,.range t x,ty,pos,aft,gd⟩::rest) ⟨s,c⟩ K:=by
 intro e a w Q r hq
 unfold wpList
 rw [if_pos (guardA_sound r hg)]
 refine .inl ?_
 have h1:=opd_sound r hx
 simp only [Rep,S] at h1
 obtain ⟨dd,e1,_,e3⟩:=(X.ok t i hT).desc
 rw [hi] at e3
 simp only [TDOK] at e3
 subst e3
 have hrun:(execOp a.eval ⟨some d,.range t x,ty,pos,aft,gd⟩).run P w=.ok (.value (.pointer (some ⟨w.heap.size,0,none⟩))) (w.alloc (.stringIter ⟨l.toArray⟩ 0)):=by
  simp only [execOp,h1,Sem.run_bind,run_range_string w t ⟨l.toArray⟩ e1,Result.andThen_ok,Sem.run_pure]
  rfl
 unfold Oper.wp
 rw [hrun]
 exact k _ _ _ Q (r.allocObj hd hf hc) hq

theorem O_next {x:Operand} {d kk:Nat} {pos0:Nat} {ty:TypeId} {pos:String} {aft:Array Edge} {gd:Option (Nat×Bool)} {rest:List Oper} {l:List UInt8} {s:List (Nat×AV)} {c r0:List Ch}
  (hg:guardA ops ⟨s,c⟩ ⟨some d,.next x true,ty,pos,aft,gd⟩=some true) (hx:opd s x=some (.bp kk 0)) (hk:takeCh kk c=some (.obj kk (.stringIter ⟨l.toArray⟩ pos0),r0)) (hd:Nat.blt d n=true)
  (k:pos0<l.length→SymO X n ops rest ⟨(d,.tup [B true,I64 pos0,.v (.int .i32 (Utf8.decode ⟨l.toArray⟩ pos0).1)])::s,.obj kk (.stringIter ⟨l.toArray⟩ (pos0+(Utf8.decode ⟨l.toArray⟩ pos0).2))::r0⟩ K)
  (k':¬ pos0<l.length→SymO X n ops rest ⟨(d,.tup [B false])::s,c⟩ K) :
  SymO X n ops (⟨some d,.next x true,ty,pos,aft,gd⟩::rest) ⟨s,c⟩ K:=by
 intro e a w Q r hq
 unfold wpList
 rw [if_pos (guardA_sound r hg)]
 refine .inl ?_
 have h1:=opd_sound r hx
 simp only [Rep] at h1
 obtain ⟨g1,r1⟩:=r.writeObj (o':=.stringIter ⟨l.toArray⟩ (pos0+(Utf8.decode ⟨l.toArray⟩ pos0).2)) hk
 unfold Oper.wp
 by_cases hp:pos0<l.length
 ·have hp':pos0<(ByteArray.mk l.toArray).size:=by rw [len_S];exact hp
  have hrun:(execOp a.eval ⟨some d,.next x true,ty,pos,aft,gd⟩).run P w=.ok (.value (.tuple #[.bool true,.int .i64 pos0,.int .i32 (Utf8.decode ⟨l.toArray⟩ pos0).1])) (setO w (e.μ kk) (.stringIter ⟨l.toArray⟩ (pos0+(Utf8.decode ⟨l.toArray⟩ pos0).2))):=by
   simp only [execOp,h1,Instr.next,getObj,setObj,Sem.run_bind,Sem.run,g1,Result.andThen,hp',if_true]
   simp [goInt,Sem.run,g1,setO]
  rw [hrun]
  refine k hp _ _ _ Q (r1.put hd ?_) hq
  simp only [Rep]
  exact ⟨_,rfl,by simp [RepT,Rep]⟩
 ·have hp':¬ pos0<(ByteArray.mk l.toArray).size:=by rw [len_S];exact hp
  have hrun:(execOp a.eval ⟨some d,.next x true,ty,pos,aft,gd⟩).run P w=.ok (.value (.tuple #[.bool false])) w:=by
   simp only [execOp,h1,Instr.next,getObj,setObj,Sem.run_bind,Sem.run,g1,Result.andThen,hp',if_false]
   rfl
  rw [hrun]
  refine k' hp _ _ _ Q (r.put hd ?_) hq
  simp only [Rep]
  exact ⟨_,rfl,by simp [RepT,Rep]⟩

end
end Go.Sy

namespace Go.Sy
open Go.RowKit

section
variable {P:Program} {T:Tab} {X:Ctx P T} {n:Nat} {e:Env} {st:St} {a:Act} {w:World} {ops:Array Oper} {K:St→Prop}

theorem slots_of {e:Env}:∀ (xs:List AV) (vs:List Value) (i0:Nat),RepT e xs vs→∀ i x,get (enumA i0 xs) i=some x→∃ v,i0≤i∧vs[i-i0]?=some v∧Rep e x v
 | [],vs,i0,_,i,x,h=>by simp [enumA,get] at h
 | y::ys,vs,i0,hr,i,x,h=>by
  simp only [RepT] at hr
  obtain ⟨z,zs,rfl,h1,h2⟩:=hr
  simp only [enumA] at h
  rw [get_cons] at h
  by_cases hi:i0=i
  ·subst hi
   simp only [if_true,Option.some.injEq] at h
   subst h
   exact ⟨z,Nat.le_refl _,by simp,h1⟩
  ·rw [if_neg hi] at h
   obtain ⟨v,g1,g2,g3⟩:=slots_of ys zs (i0+1) h2 i x h
   refine ⟨v,by omega,?_,g3⟩
   rw [show i-i0=(i-(i0+1))+1 by omega]
   simpa using g2
theorem RepT.len {e:Env}:∀ {xs:List AV} {vs:List Value},RepT e xs vs→vs.length=xs.length
 | [],vs,h=>by simp only [RepT] at h;subst h;rfl
 | x::xs,vs,h=>by
  simp only [RepT] at h
  obtain ⟨z,zs,rfl,_,h3⟩:=h
  simp [RepT.len h3]

theorem Rel.enter {X : Ctx P T} {n : Nat} {e : Env} {c : List Ch} {args : List AV} {cargs : List Value} (hX : X.w0 = w) (hG : e.G = X.G0) (him : ImOK X.G0 w) (hrep : RepT e args cargs) (hl : args.length ≤ n) (hh : HeapOK X e w c) (hμ : e.μ = X.μ0) (hdf : X.dfr = [] := by rfl) :
    Rel X n e ⟨enumA 0 args, c⟩ { tmps := cargs.toArray ++ Array.replicate (n - cargs.toArray.size) undef, defers := [] } w :=
  { defers := hdf.symm
    size := by have := RepT.len hrep; simp; omega
    slots := fun i x hx => by
      obtain ⟨v, _, g2, g3⟩ := slots_of args cargs 0 hrep i x hx
      simp only [Nat.sub_zero] at g2
      have hi : i < cargs.length := by
        rcases Nat.lt_or_ge i cargs.length with h | h
        · exact h
        · rw [List.getElem?_eq_none h] at g2; cases g2
      refine ⟨v, ?_, g3⟩
      rw [Array.getElem?_append_left (by simpa using hi)]
      simpa using g2
    im := by rw [hG]; exact him.1
    mz := by rw [hG]; exact him.2
    newm := fun b x hv => .inl (by rw [← hG]; exact hv)
    heap := hh
    le := by rw [hG]; exact IM.le_refl _
    new := fun b o v hv => .inl (by rw [← hG]; exact hv)
    os := by rw [hX]
    tape := by rw [hX]
    output := by rw [hX]
    sz := by rw [hX]; exact Nat.le_refl _
    keep := fun b _ _ _ => by rw [hX]
    fix := fun k _ => by rw [hμ] }

theorem map_eval (args:Array Operand) (a:Act):args.map a.eval=(args.toList.map a.eval).toArray:=by
 apply Array.ext';simp

def cloRP (f : FuncId) (caps : List AV) : RP :=
  { R := fun G y => ∃ vs : Array Value, y = .func (.func f) #[] vs ∧ RepIT G caps vs.toList
    mono := by
      rintro G H h v ⟨vs, e, r⟩
      exact ⟨vs, e, RepIT.mono h caps r⟩
    one := by
      rintro G v ⟨vs, e, r⟩
      subst e; rfl }

def IsClo (x:AV) (f:FuncId) (caps:List AV):Prop:=∀ G y,RepI G x y→∃ vs:Array Value,y=.func (.func f) #[] vs∧RepIT G caps vs.toList
theorem isClo_func (f:FuncId):IsClo (.v (.func (.func f) #[] #[])) f []:=fun G y h=>by
 simp only [RepI] at h
 exact ⟨#[],h,by simp [RepIT]⟩
theorem isClo_p (f:FuncId) (caps:List AV):IsClo (.p (cloRP f caps)) f caps:=fun G y h=>by
 simp only [RepI] at h
 exact h

theorem O_makeFunc {f:FuncId} {caps:Array Operand} {cavs:List AV} {d:Nat} {ty:TypeId} {pos:String} {aft:Array Edge} {gd:Option (Nat×Bool)} {rest:List Oper} {s:List (Nat×AV)} {c:List Ch}
  (hg:guardA ops ⟨s,c⟩ ⟨some d,.makeFunc (.func f) #[] caps,ty,pos,aft,gd⟩=some true) (ha:opds s caps.toList=some cavs) (himm:AV.imm.immL cavs=true) (hd:Nat.blt d n=true)
  (kk:SymO X n ops rest ⟨(d,.p (cloRP f cavs))::s,c⟩ K):SymO X n ops (⟨some d,.makeFunc (.func f) #[] caps,ty,pos,aft,gd⟩::rest) ⟨s,c⟩ K:=by
 intro e a w Q r hq
 unfold wpList
 rw [if_pos (guardA_sound r hg)]
 refine .inl ?_
 have h1:=RepT.toI cavs himm (opds_sound r ha)
 have hrun:(execOp a.eval ⟨some d,.makeFunc (.func f) #[] caps,ty,pos,aft,gd⟩).run P w=.ok (.value (.func (.func f) #[] (caps.map a.eval))) w:=by
  simp [execOp,Instr.makeFunc]
 unfold Oper.wp
 rw [hrun]
 exact kk _ _ _ Q (r.put hd (by simp only [Rep];exact ⟨_,rfl,by rw [map_eval];exact h1⟩)) hq

theorem run_callV {f:FuncId} (hc:Callable P f) {dst:Option Tmp} {x:Operand} {args:Array Operand} {tys:Array TypeId} {ty:TypeId} {pos:String} {aft:Array Edge} {gd:Option (Nat×Bool)} (ρ:Operand→Value)
  {vs:Array Value} (hρ:ρ x=.func (.func f) #[] vs) (w:World) :
  (execOp ρ ⟨dst,.call ⟨.value x,args,tys⟩,ty,pos,aft,gd⟩).run P w=.ok (.enter f (args.map ρ++vs)) w:=by
 obtain ⟨fn,h1,h2,h3⟩:=hc
 simp only [execOp,resolve,hρ,Deferred.ofValue,Sem.run_bind,Sem.run_pure,Result.andThen_ok,invoke]
 have h4:¬ fn.body=none:=by intro h;simp [h] at h2
 have h5 : ¬ fn.name = "runtime.NumGoroutine" := by simpa using h3
 simp [callFunc,h1,h4,h5]

theorem RepIT.app {G:IM}:∀ {xs ys:List AV} {vs us:List Value},RepIT G xs vs→RepIT G ys us→RepIT G (xs++ys) (vs++us)
 | [],ys,vs,us,h,k=>by simp only [RepIT] at h;subst h;simpa using k
 | x::xs,ys,vs,us,h,k=>by
  simp only [RepIT] at h
  obtain ⟨z,zs,rfl,h1,h2⟩:=h
  simp only [List.cons_append,RepIT]
  exact ⟨z,_,rfl,h1,RepIT.app h2 k⟩

theorem D_callV {base:List (Nat×AV)} {c:List Ch} {done:Done} {f:FuncId} {xo:Operand} {fv:AV} {caps:List AV} {dst:Nat} {args:Array Operand} {tys:Array TypeId} {ty:TypeId} {pos:String} {aft:Array Edge} {gd:Option (Nat×Bool)} {rest:List Oper} {avs:List AV} {x:AV}
  (hclo:IsClo fv f caps) (hfi:fv.imm=true) (hf:FnP P f (avs++caps) (·=x)) (hxo:opd (availL done aft.toList base) xo=some fv)
  (hg:guardA ops ⟨availL done aft.toList base,c⟩ ⟨some dst,.call ⟨.value xo,args,tys⟩,ty,pos,aft,gd⟩=some true) (ha:opds (availL done aft.toList base) args.toList=some avs) (himm:AV.imm.immL avs=true) (hd:Nat.blt dst n=true)
  (k:SymD X n ops base c K rest (done++[(some dst,x)])) :
  SymD X n ops base c K (⟨some dst,.call ⟨.value xo,args,tys⟩,ty,pos,aft,gd⟩::rest) done:=by
 refine ⟨x,fun e a w S K' Q r hS hk=>?_,k⟩
 have r0:Rel X n e ⟨availL done aft.toList base,c⟩ a w:=r.less hS id
 rw [if_pos (guardA_sound r0 hg)]
 refine .inl ?_
 unfold Oper.wp
 obtain ⟨vs,hfv,hvs⟩:=hclo e.G _ (Rep.toI fv hfi (opd_sound r0 hxo))
 rw [run_callV hf.1 a.eval hfv w,Oper.upon_enter]
 have h1:=RepT.toI avs himm (opds_sound r0 ha)
 have h2:=hf.2 e.G w _ ⟨r.im,r.mz⟩ (RepIT.app h1 hvs)
 have harr:args.map a.eval++vs=(args.toList.map a.eval++vs.toList).toArray:=by
  apply Array.ext';simp
 rw [harr]
 refine h2.mono ?_
 rintro en w' ⟨rv,cr,G',rfl,rfl,g1,g2,g3,g4,g5⟩
 exact hk _ _ _ ((r.after g2 g3 g4 g5).put (x:=rv) (v:=cr) hd (RepI.toRep (e:=⟨G',e.μ,e.hd⟩) rv g1))
end
end Go.Sy

namespace Go.Sy
open Go.RowKit

section
variable {P:Program} {T:Tab} {X:Ctx P T} {n:Nat} {e:Env} {st:St} {a:Act} {w:World} {ops:Array Oper} {K:St→Prop}

end
end Go.Sy

namespace Go.Sy
open Go.RowKit

def boxA (b:Nat) (T:TypeId) (cells:List AV):Abs where
 bs:=[b]
 ok:=fun G w=>∃ arr,w.heap[b]?=some (.cells arr T (0,0))∧RepIL G cells arr.toList
 keep:=by
  rintro G H w w' hG hb ⟨arr,h1,h2⟩
  exact ⟨arr,by rw [hb b (by simp)];exact h1,RepIL.mono hG cells h2⟩

def vecA (h:Value) (T:TypeId) (esz n:Nat) (row:Nat→List AV):Abs where
 bs:=h.ownBlock.toList
 ok:=fun G w=>∃ xs,w.ownsRow 0 T esz h n xs∧RowsL G esz n row xs
 keep:=by
  rintro G H w w' hG hb ⟨xs,h1,h2⟩
  exact ⟨xs,ownsRow_of_blocks h1 (fun b hbb=>hb b (by simp [hbb])),h2.mono hG⟩

def blocks (cs:List Abs):List Nat:=cs.flatMap Abs.bs

def AbsOK (G:IM) (w:World) (cs:List Abs):Prop :=
 (∀ A∈cs,A.ok G w)∧(blocks cs).Nodup∧∀ b∈blocks cs,b<w.heap.size∧G.free b

def NewAt (G G':IM) (N:Nat) (bs:List Nat):Prop:=(∀ b o v,G' b o=some v→G b o=some v∨N≤b∨b∈bs)∧∀ b x,G'.m b=some x→G.m b=some x∨N≤b∨b∈bs
theorem NewAt.of {G G':IM} {N:Nat} (bs:List Nat) (h:NewIn G G' N):NewAt G G' N bs:=⟨fun b o v hv=>(h.1 b o v hv).imp id .inl,fun b x hx=>(h.2 b x hx).imp id .inl⟩
theorem NewAt.free {G G':IM} {N b:Nat} {bs:List Nat} (h:NewAt G G' N bs) (hb:b<N) (hn:b∉bs) (hf:G.free b):G'.free b:=by
 refine ⟨fun o=>?_,?_⟩
 ·cases hg:G' b o with
  | none=>rfl
  | some v =>
   rcases h.1 b o v hg with k|k|k
   ·rw [hf.1 o] at k;cases k
   ·omega
   ·exact absurd k hn
 ·cases hg:G'.m b with
  | none=>rfl
  | some v =>
   rcases h.2 b v hg with k|k|k
   ·rw [hf.2] at k;cases k
   ·omega
   ·exact absurd k hn

def FnA (P:Program) (f:FuncId) (args:List AV) (cs:List Abs) (post:AV→List Abs→Prop):Prop :=
 Callable P f∧∀ (G:IM) (w:World) (cargs:List Value),ImOK G w→RepIT G args cargs→AbsOK G w cs →
  Calls P f cargs.toArray w fun en w'=>∃ r cr cs' G',post r cs'∧en=.returned cr∧RepI G' r cr∧IM.le G G' ∧
   NewAt G G' w.heap.size (blocks cs)∧ImOK G' w'∧AbsOK G' w' cs' ∧
   (∀ b∈blocks cs',w.heap.size≤b∨b∈blocks cs) ∧
   w'.os=w.os∧w'.tape=w.tape∧w'.output=w.output∧w.heap.size≤w'.heap.size∧∀ k,k<w.heap.size→k∉blocks cs→G.still k→w'.heap[k]?=w.heap[k]?

theorem FnA.mono {P:Program} {f:FuncId} {args:List AV} {cs:List Abs} {p q:AV→List Abs→Prop} (h:FnA P f args cs p) (hpq:∀ r c,p r c→q r c):FnA P f args cs q :=
 ⟨h.1,fun G w c h1 h2 h3=>(h.2 G w c h1 h2 h3).mono fun e w' ⟨r,cr,cs',G',k,rest⟩=>⟨r,cr,cs',G',hpq r cs' k,rest⟩⟩

theorem AbsOK.keep {G H:IM} {w w':World} {cs:List Abs} (h:AbsOK G w cs) (hG:IM.le G H) (hb:∀ b,b∈blocks cs→w'.heap[b]?=w.heap[b]?) (hs:w.heap.size≤w'.heap.size)
  (hn:∀ b,b<w.heap.size→b∈blocks cs→G.free b→H.free b):AbsOK H w' cs:=by
 refine ⟨fun A hA=>A.keep hG (fun b hbb=>hb b (List.mem_flatMap.2 ⟨A,hA,hbb⟩)) (h.1 A hA),h.2.1,fun b hbb=>?_⟩
 obtain ⟨h1,h2⟩:=h.2.2 b hbb
 exact ⟨by omega,hn b h1 hbb h2⟩

theorem FnP.toA {P:Program} {f:FuncId} {args:List AV} {post:AV→Prop} (h:FnP P f args post) (cs:List Abs):FnA P f args cs (fun r cs'=>post r∧cs'=cs):=by
 refine ⟨h.1,fun G w c h1 h2 h3=>(h.2 G w c h1 h2).mono ?_⟩
 rintro e w' ⟨r,cr,G',hp,he,g1,g2,g3,g4,g5⟩
 refine ⟨r,cr,cs,G',⟨hp,rfl⟩,he,g1,g2,.of _ g3,g4,h3.keep g2 (fun b hb=>g5.block b (h3.2.2 b hb).1 (IM.free_still (h3.2.2 b hb).2)) g5.size (fun b hb _ hf=>g3.free hb hf),fun b hb=>.inr hb,g5.os,g5.tape,g5.output,g5.size,fun k hk _ hs=>g5.block k hk hs⟩

def nthA:Nat→List Ch→Option (Abs×List Ch)
 | 0,.abs A::r=>some (A,r)
 | i+1,c::r=>match nthA i r with
  | some (A,r')=>some (A,c::r')
  | none=>none
 | _,_=>none
def pickA:List Nat→List Ch→Option (List Abs×List Ch)
 | [],c=>some ([],c)
 | i::is,c=>match nthA i c with
  | some (A,c')=>(match pickA is c' with
   | some (As,r)=>some (A::As,r)
   | none=>none)
  | none=>none
theorem nthA_perm:∀ {i:Nat} {c r:List Ch} {A:Abs},nthA i c=some (A,r)→c.Perm (.abs A::r)
 | 0,c,r,A,h=>by
  unfold nthA at h
  split at h
  ·rename_i B r'
   simp only [Option.some.injEq,Prod.mk.injEq] at h
   obtain ⟨rfl,rfl⟩:=h
   exact .refl _
  ·rename_i i h1 _;omega
  ·cases h
 | i+1,[],r,A,h=>by simp [nthA] at h
 | i+1,d::c,r,A,h=>by
  simp only [nthA] at h
  split at h
  ·rename_i B r' hh
   simp only [Option.some.injEq,Prod.mk.injEq] at h
   obtain ⟨rfl,rfl⟩:=h
   exact ((nthA_perm hh).cons d).trans (.swap _ _ _)
  ·cases h
theorem pickA_perm:∀ {is:List Nat} {c r:List Ch} {As:List Abs},pickA is c=some (As,r)→c.Perm (As.map .abs++r)
 | [],c,r,As,h=>by
  simp only [pickA,Option.some.injEq,Prod.mk.injEq] at h
  obtain ⟨rfl,rfl⟩:=h
  exact .refl _
 | i::is,c,r,As,h=>by
  simp only [pickA] at h
  split at h
  ·rename_i A c' h1
   split at h
   ·rename_i Bs r' h2
    simp only [Option.some.injEq,Prod.mk.injEq] at h
    obtain ⟨rfl,rfl⟩:=h
    exact (nthA_perm h1).trans ((pickA_perm h2).cons _)
   ·cases h
  ·cases h

section
variable {P:Program} {T:Tab} {X:Ctx P T} {n:Nat} {e:Env} {st:St} {a:Act} {w:World} {ops:Array Oper} {K:St→Prop}

theorem split_pl {e:Env} {w:World}:∀ {As:List Abs} {r:List Ch} {pl:List (Ch×List Nat)},pl.map (·.1)=As.map Ch.abs++r→(∀ p∈pl,ChOK e w p.1 p.2) →
  ∃ pl2,pl=As.map (fun A=>(Ch.abs A,A.bs))++pl2∧pl2.map (·.1)=r
 | [],r,pl,h,_=>⟨pl,rfl,by simpa using h⟩
 | A::As,r,[],h,_=>by simp at h
 | A::As,r,p::pl,h,hok=>by
  simp only [List.map_cons,List.cons_append,List.cons.injEq] at h
  obtain ⟨pl2,h1,h2⟩:=split_pl h.2 (fun q hq=>hok q (List.mem_cons_of_mem _ hq))
  have hp:=hok p (List.mem_cons_self ..)
  rw [h.1] at hp
  refine ⟨pl2,?_,h2⟩
  rw [h1]
  simp only [List.map_cons,List.cons_append]
  congr 1
  exact Prod.ext h.1 hp.1

theorem flat_abs (As:List Abs):(As.map (fun A=>(Ch.abs A,A.bs))).flatMap (·.2)=blocks As:=by
 unfold blocks
 rw [List.flatMap_map]

theorem HeapOK.absOK {As:List Abs} {r:List Ch} (h:HeapOK X e w (As.map Ch.abs++r)):AbsOK e.G w As∧∀ b∈blocks As,X.w0.heap.size≤b∨b∈X.bs:=by
 obtain ⟨pl,h1,h2,h3,h4⟩:=h
 obtain ⟨pl2,rfl,h6⟩:=split_pl h1 h2
 rw [List.flatMap_append,flat_abs] at h3 h4
 refine ⟨⟨fun A hA=>(h2 (.abs A,A.bs) (List.mem_append.2 (.inl (List.mem_map.2 ⟨A,hA,rfl⟩)))).2,(List.nodup_append.1 h3).1,fun b hb=>?_⟩,fun b hb=>(h4 b (List.mem_append.2 (.inl hb))).2.1⟩
 obtain ⟨q1,q2,q3⟩:=h4 b (List.mem_append.2 (.inl hb))
 exact ⟨q1,q3⟩

theorem HeapOK.swapAbs {As As':List Abs} {r:List Ch} {G':IM} {w':World} (h:HeapOK X e w (As.map Ch.abs++r)) (hsz0:X.w0.heap.size≤w.heap.size) (hG:IM.le e.G G')
  (hnew:NewAt e.G G' w.heap.size (blocks As)) (hok:AbsOK G' w' As') (hb:∀ b∈blocks As',w.heap.size≤b∨b∈blocks As)
  (hsz:w.heap.size≤w'.heap.size) (hk:∀ k,k<w.heap.size→k∉blocks As→e.G.still k→w'.heap[k]?=w.heap[k]?):HeapOK X ⟨G',e.μ,e.hd⟩ w' (As'.map Ch.abs++r):=by
 obtain ⟨pl,h1,h2,h3,h4⟩:=h
 obtain ⟨pl2,rfl,h6⟩:=split_pl h1 h2
 rw [List.flatMap_append,flat_abs] at h3 h4
 obtain ⟨n1,n2,n3⟩:=List.nodup_append.1 h3
 refine ⟨As'.map (fun A=>(Ch.abs A,A.bs))++pl2,by simp [h6,Function.comp_def],?_,?_,?_⟩
 ·intro p hp
  rcases List.mem_append.1 hp with hp|hp
  ·obtain ⟨A,hA,rfl⟩:=List.mem_map.1 hp
   exact ⟨rfl,hok.1 A hA⟩
  ·refine ChOK.keep (e:=e) (f:=⟨G',e.μ,e.hd⟩) hG p.1 (fun _ _=>⟨rfl,rfl⟩) (fun b hbb=>?_) (h2 p (List.mem_append.2 (.inr hp)))
   have hbf:b∈pl2.flatMap (·.2):=List.mem_flatMap.2 ⟨p,hp,hbb⟩
   exact hk b (h4 b (List.mem_append.2 (.inr hbf))).1 (fun hin=>n3 b hin b hbf rfl) (IM.free_still (h4 b (List.mem_append.2 (.inr hbf))).2.2)
 ·rw [List.flatMap_append,flat_abs]
  refine List.nodup_append.2 ⟨hok.2.1,n2,?_⟩
  rintro b hb1 b' hbf rfl
  rcases hb b hb1 with h|h
  ·have:=(h4 b (List.mem_append.2 (.inr hbf))).1;omega
  ·exact n3 b h b hbf rfl
 ·rw [List.flatMap_append,flat_abs]
  intro b hbb
  rcases List.mem_append.1 hbb with hbb|hbb
  ·obtain ⟨q1,q2⟩:=hok.2.2 b hbb
   refine ⟨q1,?_,q2⟩
   rcases hb b hbb with h|h
   ·exact .inl (by omega)
   ·exact (h4 b (List.mem_append.2 (.inl h))).2.1
  ·obtain ⟨q1,q2,q3⟩:=h4 b (List.mem_append.2 (.inr hbb))
   exact ⟨by omega,q2,hnew.free q1 (fun h=>n3 b h b hbb rfl) q3⟩

theorem Rel.swapAbs (r : Rel X n e st a w) {As As' : List Abs} {c : List Ch} {G' : IM} {w' : World} (hc : st.c.Perm (As.map Ch.abs ++ c)) (hG : IM.le e.G G') (him : ImOK G' w')
    (hnew : NewAt e.G G' w.heap.size (blocks As)) (hok : AbsOK G' w' As') (hb : ∀ b ∈ blocks As', w.heap.size ≤ b ∨ b ∈ blocks As)
    (ho : w'.os = w.os ∧ w'.tape = w.tape ∧ w'.output = w.output) (hsz : w.heap.size ≤ w'.heap.size) (hk : ∀ k, k < w.heap.size → k ∉ blocks As → e.G.still k → w'.heap[k]? = w.heap[k]?) :
    Rel X n ⟨G', e.μ, e.hd⟩ ⟨st.s, As'.map Ch.abs ++ c⟩ a w' := by
  have hh := r.heap.perm hc
  have hd := hh.absOK
  exact
    { defers := r.defers
      size := r.size
      slots := fun i x hx => by
        obtain ⟨v, q1, q2⟩ := r.slots i x hx
        exact ⟨v, q1, Rep.mono (e := e) (f := ⟨G', e.μ, e.hd⟩) hG x (fun _ _ => ⟨rfl, rfl⟩) q2⟩
      im := him.1
      mz := him.2
      heap := hh.swapAbs r.sz hG hnew hok hb hsz hk
      le := IM.le_trans r.le hG
      new := fun b o v hv => by
        rcases hnew.1 b o v hv with h | h | h
        · exact r.new b o v h
        · exact .inr (.inl (Nat.le_trans r.sz h))
        · exact .inr (hd.2 b h)
      newm := fun b x hv => by
        rcases hnew.2 b x hv with h | h | h
        · exact r.newm b x h
        · exact .inr (.inl (Nat.le_trans r.sz h))
        · exact .inr (hd.2 b h)
      os := ho.1.trans r.os
      tape := ho.2.1.trans r.tape
      output := ho.2.2.trans r.output
      sz := Nat.le_trans r.sz hsz
      keep := fun b hb1 hbs hs => by
        rw [hk b (Nat.lt_of_lt_of_le hb1 r.sz)]
        · exact r.keep b hb1 hbs hs
        · intro hin
          rcases hd.2 b hin with h | h
          · omega
          · exact hbs h
        · intro L hL
          rcases r.newm b _ hL with h | h | h
          · exact hs L h
          · omega
          · exact hbs h
      fix := r.fix }

def EndsX (T:Tab) (rs:Array ResultVar) (post:AV→List Abs→Prop):Exit→St→Prop
 | .normal,st=>∃ r cs rest,resA T st rs.toList=some r∧st.c.Perm (cs.map Ch.abs++rest)∧r.imm=true∧post r cs
 | .ret,st=>∃ r cs rest,resA T st rs.toList=some r∧st.c.Perm (cs.map Ch.abs++rest)∧r.imm=true∧post r cs
 | _,_=>False

theorem FnA.intro (ok:TabOK P T) (wide:P.follows .mixedOrders=true) {f:FuncId} {fn:Func} {c:Code} {args:List AV} {cs:List Abs} {post:AV→List Abs→Prop} (hf:P.funcs[f]?=some fn) (hb:fn.body=some c)
  (hn : (fn.name == "runtime.NumGoroutine") = false) (hargs : Nat.ble args.length fn.ntmps = true)
  (h:∀ X:Ctx P T,SymC X fn.ntmps c ⟨enumA 0 args,cs.map Ch.abs⟩ (EndsX T fn.results post)):FnA P f args cs post:=by
 refine ⟨⟨fn,hf,by simp [hb],hn⟩,?_⟩
 intro G w cargs him hrep hcs
 have hargs:=Nat.le_of_ble_eq_true hargs
 refine calls_of_wp hf hb ?_
 let X:Ctx P T:=⟨ok,wide,w,G,blocks cs,fun _=>0,fun _ _ _=>False,[]⟩
 let e:Env:=⟨G,fun _=>0,fun _=>undef⟩
 have hheap:HeapOK X e w (cs.map Ch.abs):=by
  refine ⟨cs.map (fun A=>(Ch.abs A,A.bs)),by simp [Function.comp_def],?_,by rw [flat_abs];exact hcs.2.1,?_⟩
  ·intro p hp
   obtain ⟨A,hA,rfl⟩:=List.mem_map.1 hp
   exact ⟨rfl,hcs.1 A hA⟩
  ·rw [flat_abs]
   intro b hb
   exact ⟨(hcs.2.2 b hb).1,.inr hb,(hcs.2.2 b hb).2⟩
 have r:Rel X fn.ntmps e ⟨enumA 0 args,cs.map Ch.abs⟩ { tmps:=cargs.toArray++Array.replicate (fn.ntmps-cargs.toArray.size) undef,defers:=[] } w :=
  Rel.enter rfl rfl him (RepIT.toRep (e:=e) args hrep) hargs hheap rfl
 refine Code.wp_mono (fun ex a' w' hc=>?_) (h X e _ w r)
 have fin:∀ (e':Env) (st':St),Rel X fn.ntmps e' st' a' w'→(∃ r cs rest,resA T st' fn.results.toList=some r∧st'.c.Perm (cs.map Ch.abs++rest)∧r.imm=true∧post r cs) →
   a'.defers=[]∧∃ v,(results fn a'.tmps).run P w'=.ok v w'∧(∃ r cr cs' G',post r cs'∧Ending.returned v=.returned cr∧RepI G' r cr∧IM.le G G' ∧
   NewAt G G' w.heap.size (blocks cs)∧ImOK G' w'∧AbsOK G' w' cs' ∧
   (∀ b∈blocks cs',w.heap.size≤b∨b∈blocks cs) ∧
   w'.os=w.os∧w'.tape=w.tape∧w'.output=w.output∧w.heap.size≤w'.heap.size∧∀ k,k<w.heap.size→k∉blocks cs→G.still k→w'.heap[k]?=w.heap[k]?):=by
  intro e' st' hr ⟨x,cs',rest,h1,hk,h2,h3⟩
  obtain ⟨v,h5,h6⟩:=resA_sound hr h1
  obtain ⟨q1,q2⟩:=(hr.heap.perm hk).absOK
  refine ⟨hr.defers,v,h5,x,v,cs',e'.G,h3,rfl,Rep.toI x h2 h6,hr.le,⟨hr.new,hr.newm⟩,⟨hr.im,hr.mz⟩,q1,q2,hr.os,hr.tape,hr.output,hr.sz,fun k hk hnin hs=>hr.keep k hk hnin hs⟩
 cases ex with
 | normal=>obtain ⟨e',st',h1,h2⟩:=hc;exact fin e' st' h1 h2
 | ret=>obtain ⟨e',st',h1,h2⟩:=hc;exact fin e' st' h1 h2
 | exit id=>obtain ⟨e',st',h1,h2⟩:=hc;exact h2.elim
 | goto l=>obtain ⟨e',st',h1,h2⟩:=hc;exact h2.elim
 | panic ch=>exact hc.2.elim
 | outgrown=>exact hc.elim

theorem call_after {f:FuncId} {cargs:List Value} {avs:List AV} {cs:List Abs} {cr:List Ch} {post:AV→List Abs→Prop} {s:List (Nat×AV)} {c:List Ch} {dst:Nat} (hf:FnA P f avs cs post) (r:Rel X n e ⟨s,c⟩ a w)
  (h1:RepIT e.G avs cargs) (hp:c.Perm (cs.map Ch.abs++cr)) (hd:Nat.blt dst n=true) {Q:QX X} {rest:List Oper}
  (kk:∀ x cs',post x cs'→SymO X n ops rest ⟨(dst,x)::s,cs'.map Ch.abs++cr⟩ K) (hq:∀ e' st' a' w',K st'→Rel X n e' st' a' w'→Q .normal a' w') :
  Calls P f cargs.toArray w fun en w'=>∃ cv,en=.returned cv∧wpList P ops Q rest (a.put (some dst) cv) w':=by
 have hd2:=(r.heap.perm hp).absOK
 refine (hf.2 e.G w cargs ⟨r.im,r.mz⟩ h1 hd2.1).mono ?_
 rintro en w' ⟨rv,cv,cs',G',hpost,rfl,g1,g2,g3,g4,g5,g6,o1,o2,o3,o4,o5⟩
 have r':=r.swapAbs (st:=⟨s,c⟩) hp g2 g4 g3 g5 g6 ⟨o1,o2,o3⟩ o4 o5
 exact ⟨cv,rfl,kk rv cs' hpost _ _ w' Q (r'.put (x:=rv) (v:=cv) hd (RepI.toRep (e:=⟨G',e.μ,e.hd⟩) rv g1)) hq⟩

theorem O_callA (is:List Nat) {f:FuncId} {dst:Nat} {args:Array Operand} {tys:Array TypeId} {ty:TypeId} {pos:String} {aft:Array Edge} {gd:Option (Nat×Bool)} {rest:List Oper} {avs:List AV} {cs:List Abs} {cr:List Ch} {post:AV→List Abs→Prop}
  {s:List (Nat×AV)} {c:List Ch} (hf:FnA P f avs cs post) (hg:guardA ops ⟨s,c⟩ ⟨some dst,.call ⟨.value (.func f),args,tys⟩,ty,pos,aft,gd⟩=some true) (ha:opds s args.toList=some avs) (himm:AV.imm.immL avs=true)
  (hp:pickA is c=some (cs,cr)) (hd:Nat.blt dst n=true)
  (k:∀ r cs',post r cs'→SymO X n ops rest ⟨(dst,r)::s,cs'.map Ch.abs++cr⟩ K) :
  SymO X n ops (⟨some dst,.call ⟨.value (.func f),args,tys⟩,ty,pos,aft,gd⟩::rest) ⟨s,c⟩ K:=by
 intro e a w Q r hq
 unfold wpList
 rw [if_pos (guardA_sound r hg)]
 refine .inl ?_
 unfold Oper.wp
 rw [run_call hf.1 a.eval rfl w,Oper.upon_enter]
 have h1:=RepT.toI avs himm (opds_sound r ha)
 rw [map_eval]
 refine (call_after (ops:=ops) (Q:=Q) hf r h1 (pickA_perm hp) hd k hq).mono ?_
 rintro en w' ⟨cv,rfl,h⟩
 exact h

theorem O_callAV {f:FuncId} {xo:Operand} {fv:AV} {caps:List AV} {dst:Nat} {args:Array Operand} {tys:Array TypeId} {ty:TypeId} {pos:String} {aft:Array Edge} {gd:Option (Nat×Bool)} {rest:List Oper} {avs:List AV} {cs:List Abs} {cr:List Ch} {post:AV→List Abs→Prop}
  {s:List (Nat×AV)} {c:List Ch} (hclo:IsClo fv f caps) (hfi:fv.imm=true) (hf:FnA P f (avs++caps) cs post) (hxo:opd s xo=some fv)
  (hg:guardA ops ⟨s,c⟩ ⟨some dst,.call ⟨.value xo,args,tys⟩,ty,pos,aft,gd⟩=some true) (ha:opds s args.toList=some avs) (himm:AV.imm.immL avs=true)
  (hp:c.Perm (cs.map Ch.abs++cr)) (hd:Nat.blt dst n=true)
  (k:∀ r cs',post r cs'→SymO X n ops rest ⟨(dst,r)::s,cs'.map Ch.abs++cr⟩ K) :
  SymO X n ops (⟨some dst,.call ⟨.value xo,args,tys⟩,ty,pos,aft,gd⟩::rest) ⟨s,c⟩ K:=by
 intro e a w Q r hq
 unfold wpList
 rw [if_pos (guardA_sound r hg)]
 refine .inl ?_
 unfold Oper.wp
 obtain ⟨vs,hfv,hvs⟩:=hclo e.G _ (Rep.toI fv hfi (opd_sound r hxo))
 rw [run_callV hf.1 a.eval hfv w,Oper.upon_enter]
 have h1:=RepIT.app (RepT.toI avs himm (opds_sound r ha)) hvs
 have harr:args.map a.eval++vs=(args.toList.map a.eval++vs.toList).toArray:=by
  apply Array.ext';simp
 rw [harr]
 refine (call_after (ops:=ops) (Q:=Q) hf r h1 hp hd k hq).mono ?_
 rintro en w' ⟨cv,rfl,h⟩
 exact h

end
end Go.Sy
namespace Go.Sy
section
variable {P:Program} {T:Tab} {X:Ctx P T} {n:Nat} {ops:Array Oper} {K:St→Prop}
theorem O_cA (is:List Nat) {f:FuncId} {dst:Nat} {args:Array Operand} {tys:Array TypeId} {ty:TypeId} {pos:String} {aft:Array Edge} {gd:Option (Nat×Bool)} {rest:List Oper} {avs:List AV} {cs:List Abs} {cr:List Ch} {post:AV→List Abs→Prop}
  {s:List (Nat×AV)} {c:List Ch} (hf:FnA P f avs cs post) (k:∀ r cs',post r cs'→SymO X n ops rest ⟨(dst,r)::s,cs'.map Ch.abs++cr⟩ K) (hg:guardA ops ⟨s,c⟩ ⟨some dst,.call ⟨.value (.func f),args,tys⟩,ty,pos,aft,gd⟩=some true:=by rfl) (ha:opds s args.toList=some avs:=by rfl) (himm:AV.imm.immL avs=true:=by rfl)
  (hp:pickA is c=some (cs,cr):=by rfl) (hd:Nat.blt dst n=true:=by rfl) :
  SymO X n ops (⟨some dst,.call ⟨.value (.func f),args,tys⟩,ty,pos,aft,gd⟩::rest) ⟨s,c⟩ K:=O_callA is hf hg ha himm hp hd k
end
end Go.Sy

namespace Go.Sy
open Go.RowKit

abbrev PT (b o:Nat):AV:=.v (.pointer (some ⟨b,o,none⟩))
abbrev HD (g n cc:Nat):Value:=.slice (some ⟨g,0,none⟩) n cc

section
variable {P:Program} {T:Tab} {X:Ctx P T} {n:Nat} {e:Env} {st:St} {a:Act} {w:World} {ops:Array Oper} {K:St→Prop}

def Reads (A:Abs) (b o:Nat) (cells:List AV):Prop :=
 ∀ (G:IM) (w:World),A.ok G w→∀ (j:Nat) (c:AV),cells[j]?=some c→∃ z,w.cell? ⟨b,o+j,none⟩=some z∧RepI G c z∧z.oneCell'=true

theorem reads_box {b:Nat} {t:TypeId} {cells:List AV} (o:Nat):Reads (boxA b t cells) b o (cells.drop o):=by
 rintro G w ⟨arr,h1,h2⟩ j c hc
 rw [List.getElem?_drop] at hc
 obtain ⟨z,h3,h4,h5⟩:=h2.get _ c hc
 refine ⟨z,?_,h4,h5⟩
 rw [cell_of_row w b (o+j) arr t (0,0) h1]
 simpa using h3

theorem reads_vec {g m cc:Nat} {t:TypeId} {esz:Nat} {row:Nat→List AV} {o q j:Nat} (hq:q<m) (ho:o=q*esz+j):Reads (vecA (HD g m cc) t esz m row) g o ((row q).drop j):=by
 rintro G w ⟨xs,h1,h2⟩ i c hc
 subst ho
 rw [List.getElem?_drop] at hc
 rcases h1.2 with ⟨hnil,hm⟩|⟨g',cap,cur,hsl,_,hg,hcap,hmax,hcs,htake⟩
 ·cases hnil
 ·simp only [HD,Value.slice.injEq,Option.some.injEq,Addr.mk.injEq,and_true,true_and] at hsl
  obtain ⟨rfl,_⟩:=hsl
  have z0:=h2 q hq
  obtain ⟨z,z1,z2,z3⟩:=z0.get _ c hc
  have hj:j+i<esz:=by
   rcases Nat.lt_or_ge (j+i) esz with h|h
   ·exact h
   ·rw [List.getElem?_eq_none (by simp;omega)] at z1;cases z1
  have hlt:q*esz+(j+i)<m*esz:=by
   have:(q+1)*esz≤m*esz:=Nat.mul_le_mul_right _ hq
   rw [Nat.add_mul] at this;omega
  refine ⟨z,?_,z2,z3⟩
  rw [cell_of_row w g _ cur t (0,0) hg]
  rw [List.getElem?_take,if_pos hj,List.getElem?_drop,← htake,List.getElem?_take,if_pos hlt] at z1
  rw [Nat.add_assoc]
  simpa using z1

theorem HeapOK.nth {A:Abs} {p:Nat} {c r:List Ch} (h:HeapOK X e w c) (hp:nthA p c=some (A,r)):A.ok e.G w∧(∀ b∈A.bs,b<w.heap.size∧(X.w0.heap.size≤b∨b∈X.bs)∧e.G.free b)∧A.bs.Nodup:=by
 have hh:=h.perm (nthA_perm hp)
 have:=(HeapOK.absOK (As:=[A]) (r:=r) (by simpa using hh))
 obtain ⟨⟨h1,h2,h3⟩,h4⟩:=this
 have hb:blocks [A]=A.bs:=by simp [blocks]
 rw [hb] at h2 h3 h4
 exact ⟨h1 A (by simp),fun b hbb=>⟨(h3 b hbb).1,h4 b hbb,(h3 b hbb).2⟩,h2⟩

theorem O_loadP (p:Nat) {A:Abs} {cells:List AV} {t:TypeId} {i:TI} {x:Operand} {d b o:Nat} {av:AV} {ty:TypeId} {pos:String} {aft:Array Edge} {gd:Option (Nat×Bool)} {rest:List Oper} {s:List (Nat×AV)} {c cr:List Ch}
  (hR:Reads A b o cells) (hg:guardA ops ⟨s,c⟩ ⟨some d,.load t x,ty,pos,aft,gd⟩=some true) (hx:opd s x=some (PT b o)) (hp:nthA p c=some (A,cr)) (hT:T t=some i) (hl:loadA i cells=some av) (hd:Nat.blt d n=true)
  (k:SymO X n ops rest ⟨(d,av)::s,c⟩ K):SymO X n ops (⟨some d,.load t x,ty,pos,aft,gd⟩::rest) ⟨s,c⟩ K:=by
 intro e a w Q r hq
 unfold wpList
 rw [if_pos (guardA_sound r hg)]
 refine .inl ?_
 have h1:=opd_sound r hx
 simp only [Rep] at h1
 obtain ⟨hok,_⟩:=r.heap.nth hp
 have hrd:Readable e w b o cells:=fun j c hc=>by
  obtain ⟨z,z1,z2,z3⟩:=hR _ _ hok j c hc
  exact ⟨z,z1,RepI.toRep c z2,z3⟩
 obtain ⟨v,g4,g3⟩:=load_sound X.ok hT hrd hl
 have hrun:(execOp a.eval ⟨some d,.load t x,ty,pos,aft,gd⟩).run P w=.ok (.value v) w:=by
  simp only [execOp,h1,Instr.loadAt,Instr.sureAddr,Sem.run_bind,Sem.run_pure,Result.andThen_ok,g3 w (SameAs.refl w)]
 unfold Oper.wp
 rw [hrun]
 exact k _ _ _ Q (r.put hd g4) hq

def Writes (A:Abs) (b o:Nat) (x:AV) (A':Abs):Prop :=
 b∈A.bs∧A'.bs=A.bs∧∀ (G:IM) (w:World) (v:Value),A.ok G w→RepI G x v→v.oneCell'=true →
  (w.cell? ⟨b,o,none⟩).isSome=true∧w.frozen? ⟨b,o,none⟩=false∧A'.ok G (w.setCell ⟨b,o,none⟩ v)

theorem setCell_heap {w:World} {b o:Nat} {v:Value} {cur:Array Value} {t:TypeId} {fz:Nat×Nat} (h:w.heap[b]?=some (.cells cur t fz)) :
  (w.setCell ⟨b,o,none⟩ v).heap[b]?=some (.cells (cur.setIfInBounds o v) t fz):=by
 have hlt:b<w.heap.size:=(Array.getElem?_eq_some_iff.1 h).1
 have hv:w.heap[b]=.cells cur t fz:=(Array.getElem?_eq_some_iff.1 h).2
 simp [World.setCell,Array.getElem?_modify,h]
theorem setCell_other {w:World} {b o k:Nat} {v:Value} (h:k≠b):(w.setCell ⟨b,o,none⟩ v).heap[k]?=w.heap[k]?:=by
 simp [World.setCell,Array.getElem?_modify,Ne.symm h]
theorem setCell_size {w:World} {b o:Nat} {v:Value}:(w.setCell ⟨b,o,none⟩ v).heap.size=w.heap.size:=by
 simp [World.setCell]

theorem writes_box {b:Nat} {t:TypeId} {cells:List AV} {o:Nat} {x:AV} (ho:o<cells.length):Writes (boxA b t cells) b o x (boxA b t (cells.set o x)):=by
 refine ⟨by simp [boxA],rfl,?_⟩
 rintro G w v ⟨arr,h1,h2⟩ hx hv
 have hl:=RepIL.len h2
 have ho':o<arr.size:=by simp at hl;omega
 refine ⟨by simp [World.cell?,h1,ho'],by simp [World.frozen?,h1],arr.setIfInBounds o v,setCell_heap h1,?_⟩
 refine RepIL.mk (by simpa using hl) (fun j c hc=>?_)
 rw [List.getElem?_set] at hc
 by_cases hj:o=j
 ·subst hj
  rw [if_pos rfl,if_pos ho] at hc
  simp only [Option.some.injEq] at hc
  subst hc
  exact ⟨v,by simp [ho'],hx,hv⟩
 ·rw [if_neg hj] at hc
  obtain ⟨z,z1,z2,z3⟩:=h2.get j c hc
  exact ⟨z,by simpa [hj] using z1,z2,z3⟩

theorem cells_oneV {v:Value} (h:v.oneCell'=true):v.cells=#[v]:=by
 cases v<;>first|rfl|cases h

theorem run_store1 {ρ:Operand→Value} {t:TypeId} {by_:Nat} {z:List Value} {dd:TD} {b o:Nat} {v:Value} {ad xo:Operand} {ty:TypeId} {pos:String} {aft:Array Edge} {gd:Option (Nat×Bool)} (hok:TabOK P T) (hT:T t=some ⟨1,by_,false,z,dd⟩)
  (h1:ρ ad=.pointer (some ⟨b,o,none⟩)) (h2:ρ xo=v) (hv:v.oneCell'=true) (hc:(w.cell? ⟨b,o,none⟩).isSome=true) (hf:w.frozen? ⟨b,o,none⟩=false) :
  (execOp ρ ⟨none,.store t ad xo,ty,pos,aft,gd⟩).run P w=.ok .skip (w.setCell ⟨b,o,none⟩ v):=by
 have hs:=run_storeCells_cells (P:=P) b o [v] 0 w (fun j hj=>by
   simp at hj;subst hj;simpa using hc) (fun j hj=>by simp at hj;subst hj;simpa using hf) (fun u hu=>by simp at hu;subst hu;exact hv)
 simp only [Nat.add_zero,World.setCells] at hs
 simp only [execOp,Instr.storeAt,h1,h2,Instr.sureAddr,Sem.run_bind,Sem.run_pure,Result.andThen_ok,storeVar,hok.size hT,cells_oneV hv]
 simp [hs]

theorem Rel.absTurn (r:Rel X n e st a w) {p:Nat} {A A':Abs} {cr:List Ch} {w':World} (hp:nthA p st.c=some (A,cr)) (hbs:A'.bs=A.bs) (hok:A'.ok e.G w') (hoth:∀ b,b∉A.bs→w'.heap[b]?=w.heap[b]?)
  (ho:w'.os=w.os∧w'.tape=w.tape∧w'.output=w.output) (hsz:w'.heap.size=w.heap.size):Rel X n e ⟨st.s,.abs A'::cr⟩ a w':=by
 have hperm:st.c.Perm ([A].map Ch.abs++cr):=by simpa using nthA_perm hp
 obtain ⟨_,h2,h3⟩:=r.heap.nth hp
 have hbl:∀ B:Abs,blocks [B]=B.bs:=fun B=>by simp [blocks]
 have:=Rel.swapAbs (G':=e.G) (w':=w') (As:=[A]) (As':=[A']) (c:=cr) r hperm (IM.le_refl _) ⟨?_,?_⟩ ⟨fun b o v h=>.inl h,fun b x h=>.inl h⟩ ⟨?_,?_,?_⟩ (fun k hk=>.inr ?_) ho (by rw [hsz];exact Nat.le_refl _) (fun k hk hnin _=>hoth k (by rw [hbl] at hnin;exact hnin))
 ·simpa using this
 ·intro k oo v' h
  have h1:=r.im k oo v' h
  simp only [World.cell?] at h1 ⊢
  rw [hoth k (fun hk=>by rw [(h2 k hk).2.2.1 oo] at h;cases h)]
  exact h1
 ·exact r.mzKeep (fun b hb hf=>hoth b (fun hk=>hf (h2 b hk).2.2))
 ·intro B hB
  simp only [List.mem_singleton] at hB
  subst hB
  exact hok
 ·rw [hbl,hbs];exact h3
 ·intro k hk
  rw [hbl,hbs] at hk
  obtain ⟨q1,q2,q3⟩:=h2 k hk
  exact ⟨by rw [hsz];exact q1,q3⟩
 ·rw [hbl,hbs] at hk;rw [hbl];exact hk

theorem Rel.absWrite (r:Rel X n e ⟨st.s,st.c⟩ a w) {p:Nat} {A A':Abs} {cr:List Ch} {b o:Nat} {v:Value} (hp:nthA p st.c=some (A,cr)) (hb:b∈A.bs) (hbs:A'.bs=A.bs) (hok:A'.ok e.G (w.setCell ⟨b,o,none⟩ v)) :
  Rel X n e ⟨st.s,.abs A'::cr⟩ a (w.setCell ⟨b,o,none⟩ v) :=
 r.absTurn (st:=⟨st.s,st.c⟩) hp hbs hok (fun k hk=>setCell_other (fun he=>hk (by subst he;exact hb))) ⟨rfl,rfl,rfl⟩ setCell_size

theorem HeapOK.retell {c c':Ch} {r:List Ch} (h:HeapOK X e w (c::r)) (hc:∀ bs,ChOK e w c bs→ChOK e w c' bs):HeapOK X e w (c'::r):=by
 obtain ⟨pl,h1,h2,h3,h4⟩:=h
 cases pl with
 | nil=>simp at h1
 | cons p pl =>
  simp only [List.map_cons,List.cons.injEq] at h1
  have hp:=h2 p (List.mem_cons_self ..)
  rw [h1.1] at hp
  refine ⟨(c',p.2)::pl,by simp [h1.2],?_,by simpa using h3,by simpa using h4⟩
  intro q hq
  rcases List.mem_cons.1 hq with rfl|hq
  ·exact hc _ hp
  ·exact h2 q (List.mem_cons_of_mem _ hq)

theorem Rel.boxAbs {s:List (Nat×AV)} {c cr:List Ch} (r:Rel X n e ⟨s,c⟩ a w) {i k kk o:Nat} {t:TypeId} {cells:List AV} (hi:get s i=some (.bp k o)) (hk:takeCh k c=some (.box kk t cells,cr)) (himm:AV.imm.immL cells=true) :
  ∃ b,Rel X n e ⟨(i,PT b o)::s,.abs (boxA b t cells)::cr⟩ a w:=by
 have hkk:kk=k:=kid_of_take hk
 subst hkk
 obtain ⟨v,h1,h2⟩:=r.slots i _ hi
 simp only [Rep] at h2
 subst h2
 refine ⟨e.μ kk,{ r with slots:=?_,heap:=?_ }⟩
 ·intro j x hx
  rw [get_cons] at hx
  by_cases hij:i=j
  ·subst hij
   simp only [if_true,Option.some.injEq] at hx
   subst hx
   exact ⟨_,h1,by simp only [Rep]⟩
  ·rw [if_neg hij] at hx
   exact r.slots j x hx
 ·refine HeapOK.retell (r.heap.perm (takeCh_perm hk)) ?_
  rintro bs ⟨rfl,arr,g1,g2⟩
  exact ⟨rfl,arr,g1,RepL.toI cells himm g2⟩

theorem Rel.vecAbs {s:List (Nat×AV)} {c cr:List Ch} (r:Rel X n e ⟨s,c⟩ a w) {i k kk:Nat} {t:TypeId} {esz m:Nat} {row:Nat→List AV} (hi:get s i=some (.own k)) (hk:takeCh k c=some (.vec kk t esz m row,cr)) :
  (m=0∧Rel X n e ⟨(i,.v (.slice none 0 0))::s,cr⟩ a w)∨∃ g cc,Rel X n e ⟨(i,.v (HD g m cc))::s,.abs (vecA (HD g m cc) t esz m row)::cr⟩ a w:=by
 have hkk:kk=k:=kid_of_take hk
 subst hkk
 obtain ⟨v,h1,h2⟩:=r.slots i _ hi
 simp only [Rep] at h2
 obtain ⟨rfl,_⟩:=h2
 have hh:=r.heap.perm (takeCh_perm hk)
 have slots:∀ x,e.hd kk=x→∀ j y,get ((i,.v x)::s) j=some y→∃ v,a.tmps[j]?=some v∧Rep e y v:=by
  intro x hx0 j y hx
  rw [get_cons] at hx
  by_cases hij:i=j
  ·subst hij
   simp only [if_true,Option.some.injEq] at hx
   subst hx
   exact ⟨_,h1,by simp only [Rep];exact hx0⟩
  ·rw [if_neg hij] at hx
   exact r.slots j y hx
 obtain ⟨bs,⟨hbs,xs,g1,g2⟩,_,hgood⟩:=hh.head
 rcases g1.2 with ⟨hnil,hm⟩|⟨g,cap,cur,hsl,_⟩
 ·exact .inl ⟨hm,{ r with slots:=slots _ hnil,heap:=hh.drop }⟩
 ·refine .inr ⟨g,cap,{ r with slots:=slots _ hsl,heap:=?_ }⟩
  refine HeapOK.retell hh ?_
  rintro bs' ⟨rfl,xs',k1,k2⟩
  rw [hsl] at k1 ⊢
  exact ⟨rfl,xs',k1,k2⟩

theorem C_absb {Q:Exit→St→Prop} {cd:Code} {s:List (Nat×AV)} {c cr:List Ch} (i:Nat) {k kk o:Nat} {t:TypeId} {cells:List AV} (hi:get s i=some (.bp k o)) (hk:takeCh k c=some (.box kk t cells,cr)) (himm:AV.imm.immL cells=true)
  (h:∀ b,SymC X n cd ⟨(i,PT b o)::s,.abs (boxA b t cells)::cr⟩ Q):SymC X n cd ⟨s,c⟩ Q:=fun e a w r=>by
 obtain ⟨b,r'⟩:=r.boxAbs hi hk himm
 exact h b e a w r'
theorem O_absb {l:List Oper} {s:List (Nat×AV)} {c cr:List Ch} (i:Nat) {k kk o:Nat} {t:TypeId} {cells:List AV} (hi:get s i=some (.bp k o)) (hk:takeCh k c=some (.box kk t cells,cr)) (himm:AV.imm.immL cells=true)
  (h:∀ b,SymO X n ops l ⟨(i,PT b o)::s,.abs (boxA b t cells)::cr⟩ K):SymO X n ops l ⟨s,c⟩ K:=fun e a w Q r=>by
 obtain ⟨b,r'⟩:=r.boxAbs hi hk himm
 exact h b e a w Q r'
theorem O_absv {l:List Oper} {s:List (Nat×AV)} {c cr:List Ch} (i:Nat) {k kk:Nat} {t:TypeId} {esz m:Nat} {row:Nat→List AV} (hi:get s i=some (.own k)) (hk:takeCh k c=some (.vec kk t esz m row,cr))
  (h0:m=0→SymO X n ops l ⟨(i,.v (.slice none 0 0))::s,cr⟩ K) (h:∀ g cc,SymO X n ops l ⟨(i,.v (HD g m cc))::s,.abs (vecA (HD g m cc) t esz m row)::cr⟩ K):SymO X n ops l ⟨s,c⟩ K:=fun e a w Q r=>by
 rcases r.vecAbs hi hk with ⟨hm,r'⟩|⟨g,cc,r'⟩
 ·exact h0 hm e a w Q r'
 ·exact h g cc e a w Q r'

end
end Go.Sy

namespace Go.Sy
open Go.RowKit

theorem repI_nil {G:IM} {esz:Nat} {row:Nat→List AV} {y:Value} (h:RepI G (.v (.slice none 0 0)) y):RepI G (.sl 0 esz row) y:=by
 simp only [RepI] at h ⊢
 exact ⟨none,0,h,Nat.le_refl _,by simp⟩

section
variable {P:Program} {T:Tab} {X:Ctx P T} {n:Nat} {e:Env} {st:St} {a:Act} {w:World} {ops:Array Oper} {K:St→Prop}

theorem Le.perm {s s2:List (Nat×AV)} {c c2:List Ch} (cr:List Ch) (hs:subS s2 s) (hc:c.Perm (cr++c2)):Le X n ⟨s,c⟩ ⟨s2,c2⟩:=by
 intro e a w r
 refine ⟨e,r.less (fun i x h=>subS_get hs i x h) (fun h=>?_)⟩
 have h2:=h.perm hc
 clear hc
 induction cr with
 | nil=>exact h2
 | cons d cr ih=>exact ih h2.drop

theorem run_equalIn_slicenil {t el:TypeId} (h:P.underlying t=some (.slice el)) (aa:Option Addr) (k cc:Nat) (w:World) (d:Nat) :
  ∃ b,(Op.equalIn (d+1) t (.slice aa k cc) (.slice none 0 0)).run P w=.ok b w∧(b=true→aa=none):=by
 cases aa with
 | none=>exact ⟨_,by simp [Op.equalIn,run_underlying h];rfl,fun _=>rfl⟩
 | some x=>exact ⟨false,by simp [Op.equalIn,run_underlying h],fun hb=>by cases hb⟩
theorem run_equal_slicenil {t el:TypeId} (h:P.underlying t=some (.slice el)) (aa:Option Addr) (k cc:Nat) (w:World) :
  ∃ b,(Op.equal t (.slice aa k cc) (.slice none 0 0)).run P w=.ok b w∧(b=true→aa=none) :=
 run_equalIn_slicenil h aa k cc w 9999

theorem O_nilsl {t el:TypeId} {y:Operand} {d u m esz:Nat} {row:Nat→List AV} {ty:TypeId} {pos:String} {aft:Array Edge} {gd:Option (Nat×Bool)} {rest:List Oper} {s:List (Nat×AV)} {c:List Ch} (hP:P.underlying t=some (.slice el))
  (hg:guardA ops ⟨s,c⟩ ⟨some d,.binOp .eql t y (.const (.slice none 0 0)) u,ty,pos,aft,gd⟩=some true) (hy:opd s y=some (.sl m esz row)) (hd:Nat.blt d n=true)
  (kk:∀ b,(b=true→m=0)→SymO X n ops rest ⟨(d,B b)::s,c⟩ K):SymO X n ops (⟨some d,.binOp .eql t y (.const (.slice none 0 0)) u,ty,pos,aft,gd⟩::rest) ⟨s,c⟩ K:=by
 intro e a w Q r hq
 unfold wpList
 rw [if_pos (guardA_sound r hg)]
 refine .inl ?_
 have h1:=opd_sound r hy
 simp only [Rep,RepI] at h1
 obtain ⟨aa,cc,h1,h3,h4⟩:=h1
 obtain ⟨b,hb,hbn⟩:=run_equal_slicenil hP aa m cc w
 have hrun:(execOp a.eval ⟨some d,.binOp .eql t y (.const (.slice none 0 0)) u,ty,pos,aft,gd⟩).run P w=.ok (.value (.bool b)) w:=by
  have h2:a.eval (.const (.slice none 0 0))=.slice none 0 0:=rfl
  simp only [execOp,h1,h2]
  simp [eqGuard,binOp,hb]
 unfold Oper.wp
 rw [hrun]
 refine kk b (fun hbt=>?_) _ _ _ Q (r.put hd (by simp [Rep])) hq
 rcases h4 with h4|⟨b',o,h4,_⟩
 ·exact h4
 ·rw [hbn hbt] at h4;cases h4

end
end Go.Sy

namespace Go.Sy
open Go.RowKit

section
variable {P:Program} {T:Tab} {X:Ctx P T} {n:Nat} {e:Env} {st:St} {a:Act} {w:World} {ops:Array Oper} {K:St→Prop}

theorem O_empty {t el esz by_ sz0 b0:Nat} {ag0 ag1:Bool} {z0 z1:List Value} {d1:TD} (row:Nat→List AV) {d:Nat} {ty:TypeId} {pos:String} {aft:Array Edge} {rest:List Oper} {s:List (Nat×AV)} {c:List Ch}
  (hTs:T t=some ⟨sz0,b0,ag0,z0,.slice el⟩) (hTe:T el=some ⟨esz,by_,ag1,z1,d1⟩) (hd:Nat.blt d n=true) (hf:freshS d s=true) (hc:freshC d c=true)
  (k:SymO X n ops rest ⟨(d,.own d)::s,.vec d el esz 0 row::c⟩ K):SymO X n ops (⟨some d,.buildSlice t 0 #[],ty,pos,aft,none⟩::rest) ⟨s,c⟩ K:=by
 intro e a w Q r hq
 unfold wpList
 rw [if_pos (guardA_sound r (o:=⟨some d,.buildSlice t 0 #[],ty,pos,aft,none⟩) (b:=true) rfl)]
 refine .inl ?_
 obtain ⟨dd,e1,_,e3⟩:=(X.ok _ _ hTs).desc
 simp only [TDOK] at e3
 subst e3
 have hrun:(execOp a.eval ⟨some d,.buildSlice t 0 #[],ty,pos,aft,none⟩).run P w=.ok (.value (.slice (some ⟨w.heap.size,0,none⟩) 0 0)) (w.alloc (.cells #[] el)):=by
  simp [execOp,Instr.buildSlice,run_underlying e1,X.ok.size hTe,Instr.fill,newRow]
  congr 2
  apply Array.ext'
  simp
 unfold Oper.wp
 rw [hrun]
 exact k _ _ _ Q (r.newvec (st:=⟨s,c⟩) (m:=0) (esz:=esz) (row:=row) (arr:=#[]) hd hf hc (by simp) (Nat.zero_le _) (fun i hi=>by omega)) hq

end
end Go.Sy

namespace Go.Sy
open Go.RowKit

section
variable {P:Program} {T:Tab} {X:Ctx P T} {n:Nat} {e:Env} {st:St} {a:Act} {w:World} {ops:Array Oper} {K:St→Prop}

theorem stepD_bsl {c:List Ch} {o:Oper} {Si:List (Nat×AV)} {el esz len:Nat} {cs:List AV} (hg:guardA ops ⟨Si,c⟩ o=some true) (hd:dstOK n o.dst=true) (hb:bslA T ⟨Si,c⟩ o.op=some (el,esz,len,cs)):StepD X n ops Si c o (.sl len esz (chunkRow esz cs)):=by
 intro e a w S K' Q r hS hk
 have r':Rel X n e ⟨Si,c⟩ a w:=r.less hS (fun h=>h)
 rw [if_pos (guardA_sound r' hg)]
 obtain ⟨arr,b1,b2,b3,b4⟩:=bslA_sound r' hb
 refine .inl ?_
 unfold Oper.wp
 rw [b4 w]
 let G':IM:=⟨fun b oo=>if b=w.heap.size then arr.toList[oo]? else e.G b oo,e.G.m⟩
 have hlt:∀ b o v,e.G b o=some v→b<w.heap.size:=fun b o v h=>Go.block_lt_of_cell (r.im b o v h)
 have hle:IM.le e.G G':=by
  refine ⟨?_,fun _ _ h=>h⟩
  intro b o v hv
  show (if b=w.heap.size then arr.toList[o]? else e.G b o)=some v
  rw [if_neg (by have:=hlt b o v hv;omega)]
  exact hv
 have hnew:(w.alloc (.cells arr el)).heap[w.heap.size]?=some (.cells arr el (0,0)):=Go.heap_alloc_new w _
 have him:ImOK G' (w.alloc (.cells arr el)):=by
  refine ⟨?_,fun b x hx=>(r.mz b x hx).keep (H:=G') hle (Go.heap_alloc_old w _ (r.mz b x hx).lt) (fun o v hv=>⟨v,by
   have hv':(if b=w.heap.size then arr.toList[o]? else e.G b o)=some v:=hv
   rw [if_neg (by have:=(r.mz b x hx).lt;omega)] at hv'
   exact hv'⟩)⟩
  intro b o v hv
  have hv':(if b=w.heap.size then arr.toList[o]? else e.G b o)=some v:=hv
  split at hv'
  ·rename_i hb;subst hb
   rw [cell_of_row _ _ o arr el (0,0) hnew]
   simpa using hv'
  ·have h1:=r.im b o v hv'
   simp only [World.cell?] at h1 ⊢
   rw [Go.heap_alloc_old w _ (hlt b o v hv')]
   exact h1
 have r2:=r.after hle ⟨fun b o v hv=>by
  have hv':(if b=w.heap.size then arr.toList[o]? else e.G b o)=some v:=hv
  split at hv'
  ·rename_i hb;exact .inr (by omega)
  ·exact .inl hv',fun _ _ h=>.inl h⟩ him ⟨rfl,rfl,rfl,by simp,fun b hb _=>Go.heap_alloc_old w _ hb⟩
 refine hk _ _ _ (putOK r2 hd ?_)
 simp only [Rep,RepI]
 refine ⟨_,len,rfl,Nat.le_refl _,.inr ⟨w.heap.size,0,rfl,fun q hq=>CellsAt.mk (fun j x hx=>?_)⟩⟩
 obtain ⟨z,z1,z2,z3⟩:=(b3 q hq).get j x hx
 have hj:j<esz:=by
  rcases Nat.lt_or_ge j esz with h|h
  ·exact h
  ·rw [List.getElem?_eq_none (by simp;omega)] at z1;cases z1
 refine ⟨z,?_,RepI.mono hle x z2,z3⟩
 show (if w.heap.size=w.heap.size then arr.toList[0+q*esz+j]? else _)=some z
 rw [if_pos rfl,Nat.zero_add]
 rw [List.getElem?_take,if_pos hj,List.getElem?_drop] at z1
 exact z1

end
end Go.Sy

set_option linter.unusedSectionVars false
namespace Go.Sy
open Go.RowKit

theorem cT {α:Type} {b:Bool} {x y:Option α} {r:α} (hb:b=true) (h:cond b x y=some r):x=some r:=by subst hb;exact h
theorem cF {α:Type} {b:Bool} {x y:Option α} {r:α} (hb:b=false) (h:cond b x y=some r):y=some r:=by subst hb;exact h
def chk {α:Type} (p:Prop) [Decidable p] (x:Option α):Option α:=if p then x else none
theorem gT {α:Type} {p:Prop} [Decidable p] {x:Option α} {r:α} (h:chk p x=some r):p∧x=some r:=by
 unfold chk at h
 split at h
 ·rename_i hp;exact ⟨hp,h⟩
 ·cases h
theorem chk_pos {α:Type} {p:Prop} [Decidable p] {x:Option α} (hp:p):chk p x=x:=if_pos hp
theorem bT {α β:Type} {x:Option α} {f:α→Option β} {r:β} (h:x.bind f=some r):∃ a,x=some a∧f a=some r:=by
 cases x with
 | none=>cases h
 | some a=>exact ⟨a,rfl,h⟩

def iterN {S R:Type} (body:S→Option (S ⊕ R)):Nat→S→Option R
 | 0,_=>none
 | n+1,s=>match body s with
  | none=>none
  | some (.inl s')=>iterN body n s'
  | some (.inr r)=>some r

theorem iterN_det {S R:Type} {body:S→Option (S ⊕ R)}:∀ {n m:Nat} {s:S} {r q:R},iterN body n s=some r→iterN body m s=some q→r=q
 | 0,_,_,_,_,h,_=>by cases h
 | _+1,0,_,_,_,_,h=>by cases h
 | n+1,m+1,s,r,q,h,k=>by
  simp only [iterN] at h k
  cases hb:body s with
  | none=>rw [hb] at h;cases h
  | some z =>
   rw [hb] at h k
   cases z with
   | inl s'=>exact iterN_det h k
   | inr x=>cases h;cases k;rfl

noncomputable def Iter {S R:Type} (body:S→Option (S ⊕ R)) (s:S):Option R :=
 open Classical in if h:∃ n r,iterN body n s=some r then some h.choose_spec.choose else none

theorem Iter_iff {S R:Type} {body:S→Option (S ⊕ R)} {s:S} {r:R}:Iter body s=some r↔∃ n,iterN body n s=some r:=by
 unfold Iter
 constructor
 ·intro h
  split at h
  ·rename_i hh
   cases h
   exact ⟨_,hh.choose_spec.choose_spec⟩
  ·cases h
 ·rintro ⟨n,h⟩
  rw [dif_pos ⟨n,r,h⟩]
  exact congrArg some (iterN_det (Exists.choose_spec (Exists.choose_spec (⟨n,r,h⟩:∃ n r,iterN body n s=some r))) h)

theorem Iter_next {S R:Type} {body:S→Option (S ⊕ R)} {s s':S} (h:body s=some (.inl s')):Iter body s=Iter body s':=by
 have key:∀ r,Iter body s=some r↔Iter body s'=some r:=fun r=>by
  rw [Iter_iff,Iter_iff]
  constructor
  ·rintro ⟨n,hn⟩
   cases n with
   | zero=>cases hn
   | succ n=>simp only [iterN,h] at hn;exact ⟨n,hn⟩
  ·rintro ⟨n,hn⟩
   exact ⟨n+1,by simp only [iterN,h];exact hn⟩
 cases hs:Iter body s with
 | some r=>exact ((key r).1 hs).symm
 | none =>
  cases hs':Iter body s' with
  | none=>rfl
  | some r=>rw [(key r).2 hs'] at hs;cases hs

theorem Iter_end {S R:Type} {body:S→Option (S ⊕ R)} {s:S} {r:R} (h:body s=some (.inr r)):Iter body s=some r :=
 Iter_iff.2 ⟨1,by simp only [iterN,h]⟩

section
variable {P:Program} {T:Tab} {X:Ctx P T} {n:Nat} {e:Env} {st:St} {a:Act} {w:World} {ops:Array Oper} {K:St→Prop}

theorem C_iter {S R:Type} {Q:Exit→St→Prop} {c:Code} {body:S→Option (S ⊕ R)} {s0:S} {out:R} (f:S→St) (hi:Iter body s0=some out) (h0:Le X n st (f s0))
  (round:∀ s y,body s=some y→(∀ r,y=.inr r→r=out)→SymC X n c (f s) (fun ex s2=>match ex with
   | .normal=>∃ s',y=.inl s'∧Le X n s2 (f s')
   | ex=>Q ex s2)):SymC X n (.loop c) st Q:=by
 obtain ⟨m,hm⟩:=Iter_iff.1 hi
 refine C_loop (fun p:Nat×S=>f p.2) (fun p=>iterN body p.1 p.2=some out) (fun p=>p.1) (m,s0) hm h0 ?_
 rintro ⟨k,s⟩ hk
 cases k with
 | zero=>cases hk
 | succ k =>
  cases hb:body s with
  | none=>simp only [iterN,hb] at hk;cases hk
  | some y =>
   have hk':=hk
   simp only [iterN,hb] at hk'
   refine (round s y hb (fun r hr=>?_)).mono (fun ex s2 h=>?_)
   ·subst hr
    simp only [Option.some.injEq] at hk'
    exact hk'
   ·cases ex with
    | normal =>
     obtain ⟨s',rfl,hle⟩:=h
     exact ⟨(k,s'),hk',Nat.lt_succ_self _,hle⟩
    | exit id=>exact h
    | goto l=>exact h
    | ret=>exact h
    | panic ch=>exact h
    | outgrown=>exact h

abbrev NIL:AV:=.v (.slice none 0 0)
inductive subA:AV→AV→Prop
 | refl {x:AV}:subA x x
 | nil {esz:Nat} {row:Nat→List AV}:subA NIL (.sl 0 esz row)
 | row {m esz:Nat} {r1 r2:Nat→List AV}:(∀ i,i<m→r1 i=r2 i)→subA (.sl m esz r1) (.sl m esz r2)
inductive subAL:List AV→List AV→Prop
 | nil:subAL [] []
 | cons {x y:AV} {xs ys:List AV}:subA x y→subAL xs ys→subAL (x::xs) (y::ys)
theorem subA_R {e:Env} {x y:AV} (h:subA x y) {v:Value} (r:Rep e x v):Rep e y v:=by
 cases h with
 | refl=>exact r
 | nil=>exact Rep.nilsl r
 | row h=>exact Rep.slrow h r
theorem subAL_L {e:Env} {xs ys:List AV} (h:subAL xs ys):∀ {vs:List Value},RepL e xs vs→RepL e ys vs:=by
 induction h with
 | nil=>intro vs r;exact r
 | cons h _ ih =>
  intro vs r
  simp only [RepL] at r ⊢
  obtain ⟨z,zs,e1,r1,r2,r3⟩:=r
  exact ⟨z,zs,e1,subA_R h r1,r2,ih r3⟩
theorem subAL_agg {e:Env} {xs ys:List AV} (h:subAL xs ys) (v:Value) (r:Rep e (.agg xs) v):Rep e (.agg ys) v:=by
 simp only [Rep] at r ⊢
 obtain ⟨zs,e1,r⟩:=r
 exact ⟨zs,e1,subAL_L h r⟩

theorem Le.agg {s:List (Nat×AV)} {c:List Ch} (i:Nat) {xs:List AV} (ys:List AV) (hi:get s i=some (.agg xs)) (h:subAL xs ys):Le X n ⟨s,c⟩ ⟨(i,.agg ys)::s,c⟩ :=
 Le.conv i hi (fun e v r=>subAL_agg h v r)
theorem Le.one {s:List (Nat×AV)} {c:List Ch} (i:Nat) {x:AV} (y:AV) (hi:get s i=some x) (h:subA x y):Le X n ⟨s,c⟩ ⟨(i,y)::s,c⟩ :=
 Le.conv i hi (fun e v r=>subA_R h r)
theorem Le.boxsub {s:List (Nat×AV)} {c rest:List Ch} (k:Nat) {kk:Nat} {t:TypeId} {xs:List AV} (ys:List AV) (hk:takeCh k c=some (.box kk t xs,rest)) (h:subAL xs ys):Le X n ⟨s,c⟩ ⟨s,.box kk t ys::rest⟩:=by
 intro e a w r
 have hp:=takeCh_perm hk
 refine ⟨e,{ r with slots:=r.slots,heap:=?_ }⟩
 refine HeapOK.retell (r.heap.perm hp) (fun bs hc=>?_)
 obtain ⟨h1,arr,h2,h3⟩:=hc
 exact ⟨h1,arr,h2,subAL_L h h3⟩
theorem Le.lit {α:Type} [Inhabited α] {s:List (Nat×AV)} {c rest:List Ch} (i:Nat) {k t esz m:Nat} {row:Nat→List AV} (cells:α→List AV) (l:List α) (hi:get s i=some (.own k)) (hk:takeCh k c=some (.vec k t esz m row,rest))
  (hm:m=l.length) (h:∀ j,j<m→row j=cells (l.getD j default)):Le X n ⟨s,c⟩ ⟨(i,SL esz cells l)::s,rest⟩:=by
 subst hm
 have h1:=Le.freeze (P:=P) (T:=T) (X:=X) (n:=n) (i:=i) hi hk
 have h2:Le X n ⟨(i,.sl l.length esz row)::s,rest⟩ ⟨(i,SL esz cells l)::(i,.sl l.length esz row)::s,rest⟩ :=
  Le.conv i (by rw [get_cons,if_pos rfl]) (fun e v r=>Rep.slrow (row2:=fun j=>cells (l.getD j default)) h r)
 refine (h1.trans h2).trans (fun e a w r=>⟨e,r.less (fun k y hk=>?_) id⟩)
 simp only [get_cons] at hk ⊢
 by_cases hik:i=k
 ·rw [if_pos hik] at hk ⊢;exact hk
 ·rw [if_neg hik] at hk ⊢;rw [if_neg hik];exact hk

theorem sdw {base:List (Nat×AV)} {c:List Ch} {o:Oper} {rest:List Oper} {done:Done} {x:AV} (y:AV) (hg:guardA ops ⟨availL done o.after.toList base,c⟩ o=some true) (hd:dstOK n o.dst=true)
  (hs:still T ⟨availL done o.after.toList base,c⟩ o.op=some x) (hsub:subA x y) (h:SymD X n ops base c K rest (done++[(o.dst,y)])):SymD X n ops base c K (o::rest) done :=
 D_val y hg hd (fun e a w r=>by
  obtain ⟨v,h1,h2⟩:=still_sound r hs
  exact ⟨v,subA_R hsub h1,fun w' hw=>h2 w' hw⟩) h
theorem D_case {base:List (Nat×AV)} {c:List Ch} {l:List Oper} {done:Done} (i:Nat) {d:Option Nat} {b:Bool} (hi:done[i]?=some (d,.v (.bool b)))
  (ht:b=true→normG (done.set i (d,.v (.bool true))) (fun done=>SymD X n ops base c K l done))
  (hf:b=false→normG (done.set i (d,.v (.bool false))) (fun done=>SymD X n ops base c K l done)):SymD X n ops base c K l done:=by
 have key:done.set i (d,.v (.bool b))=done:=by
  apply List.ext_getElem?
  intro j
  rw [List.getElem?_set]
  split
  ·rename_i h;subst h
   split
   ·exact hi.symm
   ·rename_i h;rw [List.getElem?_eq_none (by omega)] at hi;cases hi
  ·rfl
 cases hb:b with
 | true=>have:=ht hb;rw [normG_eq] at this;rw [hb] at key;rwa [key] at this
 | false=>have:=hf hb;rw [normG_eq] at this;rw [hb] at key;rwa [key] at this
theorem C_join {Q:Exit→St→Prop} {c:Code} (s2:St) (h1:SymC X n c st (fun ex s=>match ex with
   | .normal=>Le X n s s2
   | ex=>Q ex s)) (h2:∀ s,Le X n s s2→Q .normal s):SymC X n c st Q:=by
 refine h1.mono (fun ex s h=>?_)
 cases ex with
 | normal=>exact h2 s h
 | exit id=>exact h
 | goto l=>exact h
 | ret=>exact h
 | panic ch=>exact h
 | outgrown=>exact h
theorem C_joinP {Q:Exit→St→Prop} {c:Code} (s2:St) (p:Prop) (h1:SymC X n c st (fun ex s=>match ex with
   | .normal=>Le X n s s2∧p
   | ex=>Q ex s)) (h2:∀ s,Le X n s s2→p→Q .normal s):SymC X n c st Q:=by
 refine h1.mono (fun ex s h=>?_)
 cases ex with
 | normal=>exact h2 s h.1 h.2
 | exit id=>exact h
 | goto l=>exact h
 | ret=>exact h
 | panic ch=>exact h
 | outgrown=>exact h
end
end Go.Sy

namespace Go.Sy
open Go.RowKit

section
variable {P:Program} {T:Tab} {X:Ctx P T} {n:Nat} {e:Env} {st:St} {a:Act} {w:World} {ops:Array Oper} {K:St→Prop}

def predsB (ops:Array Oper) (i:Nat):List Nat:=match ops.toList[i]? with
 | none=>[]
 | some o=>(o.after.toList.filter (fun e=>Region.binds .any e)).map (·.on)
def ancsB (ops:Array Oper):Nat→Nat→List Nat
 | 0,_=>[]
 | f+1,i=>(predsB ops i).flatMap (fun j=>j::ancsB ops f j)
def tailB (ops:Array Oper) (f m:Nat):Bool :=
 Nat.blt m ops.toList.length&&(List.range m).all (fun j=>(ancsB ops f m).contains j)&&(List.range (ops.toList.length-m-1)).all (fun k=>(predsB ops (m+1+k)).contains (m+k))

theorem mem_preds {i j:Nat} (h:j∈predsB ops i):∃ o,ops[i]?=some o∧∃ e∈o.after,Region.binds .any e=true∧e.on=j:=by
 unfold predsB at h
 split at h
 ·cases h
 ·rename_i o ho
  simp only [List.mem_map,List.mem_filter] at h
  obtain ⟨e,⟨h1,h2⟩,h3⟩:=h
  exact ⟨o,by simpa using ho,e,by simpa using h1,h2,h3⟩

def ClosedL (ops:Array Oper) (listed:Array Bool):Prop:=∀ j o,listed.getD j false=true→ops[j]?=some o→∀ e∈o.after,Region.binds .any e=true→listed.getD e.on false=true

theorem ancs_listed {listed:Array Bool} (hc:ClosedL ops listed):∀ (f i:Nat),(∀ j∈predsB ops i,listed.getD j false=true)→∀ j∈ancsB ops f i,listed.getD j false=true
 | 0,_,_,j,h=>by cases h
 | f+1,i,hp,j,h=>by
  simp only [ancsB,List.mem_flatMap,List.mem_cons] at h
  obtain ⟨k,hk,h⟩:=h
  rcases h with rfl|h
  ·exact hp _ hk
  ·refine ancs_listed hc f k (fun q hq=>?_) j h
   obtain ⟨o,ho,e,he,hb,rfl⟩:=mem_preds hq
   exact hc k o (hp k hk) ho e he hb

theorem any_tail {Q:Exit→Act→World→Prop} {m f:Nat} (ht:tailB ops f m=true) (hedge:∀ i o,ops[i]?=some o→∀ e∈o.after,Region.binds .any e=true→e.on<i):∀ (fuel i:Nat) (listed:Array Bool) (a:Act) (w:World),fuel+i=ops.size→m≤i→listed.size=ops.size →
  (∀ j,j<ops.size→(listed.getD j false=true↔j<i))→wpList P ops Q (ops.toList.drop i) a w→wpAny P .any ops Q fuel listed a w:=by
 have ht':=ht
 unfold tailB at ht'
 simp only [Bool.and_eq_true,List.all_eq_true,List.mem_range,Array.length_toList] at ht'
 obtain ⟨⟨hm,_⟩,hch⟩:=ht'
 intro fuel
 induction fuel with
 | zero =>
  intro i listed a w hf hi hsz hl hw
  have hi':i=ops.size:=by omega
  subst hi'
  refine ⟨?_,?_⟩
  ·cases hr:Region.ready .any ops listed with
   | nil=>rfl
   | cons j js =>
    exfalso
    have hmem:j∈Region.ready .any ops listed:=by rw [hr];simp
    rw [mem_ready] at hmem
    obtain ⟨h0,o,ho,_⟩:=hmem
    have hlt:j<ops.size:=(Array.getElem?_eq_some_iff.1 ho).1
    have:=(hl j hlt).2 hlt
    have hls:j<listed.size:=by omega
    simp [hls] at h0 this
    rw [h0] at this;cases this
  ·rw [List.drop_eq_nil_of_le (by simp)] at hw
   simpa [wpList] using hw
 | succ fuel ih =>
  intro i listed a w hf hi hsz hl hw
  have hil:i<ops.size:=by omega
  have hready:∀ j∈Region.ready .any ops listed,j=i:=by
   intro j hj
   rw [mem_ready] at hj
   obtain ⟨h0,o,ho,hp⟩:=hj
   have hlt:j<ops.size:=(Array.getElem?_eq_some_iff.1 ho).1
   have hls:j<listed.size:=by omega
   have hge:i≤j:=by
    rcases Nat.lt_or_ge j i with h|h
    ·have:=(hl j hlt).2 h
     simp [hls] at h0 this
     rw [h0] at this;cases this
    ·exact h
   rcases Nat.eq_or_lt_of_le hge with h|h
   ·exact h.symm
   ·exfalso
    have hc:=hch (j-m-1) (by omega)
    rw [show m+1+(j-m-1)=j by omega,show m+(j-m-1)=j-1 by omega,List.contains_iff_mem] at hc
    obtain ⟨o',ho',e,he,hb,hon⟩:=mem_preds hc
    rw [ho] at ho'
    cases ho'
    have:=hp e he hb
    rw [hon] at this
    have:=(hl (j-1) (by omega)).1 this
    omega
  have hlen:i<ops.toList.length:=by simpa using hil
  rw [List.drop_eq_getElem_cons hlen] at hw
  have hoi:ops[i]?=some (ops.toList[i]):=by simp [hil]
  refine ⟨fun hr=>?_,fun j hj=>?_⟩
  ·exfalso
   have hmem:i∈Region.ready .any ops listed:=by
    rw [mem_ready]
    have hls:i<listed.size:=by omega
    refine ⟨?_,_,hoi,fun e he hb=>?_⟩
    ·cases h:listed.getD i false with
     | true=>exact absurd ((hl i hil).1 h) (Nat.lt_irrefl _)
     | false=>simp [hls] at h ⊢;exact h
    ·have h1:=hedge i _ hoi e he hb
     exact (hl e.on (by omega)).2 h1
   rw [hr] at hmem;cases hmem
  ·obtain rfl:=hready j hj
   have hnext:∀ a w,wpList P ops Q (ops.toList.drop (j+1)) a w→wpAny P .any ops Q fuel (listed.setIfInBounds j true) a w:=fun a w hw=>by
    refine ih (j+1) _ a w (by omega) (by omega) (by simpa using hsz) (fun k hk=>?_) hw
    by_cases hkj:k=j
    ·subst hkj
     have hls:k<listed.size:=by omega
     simp [hls]
    ·rw [getD_set_ne false (Ne.symm hkj),hl k hk]
     omega
   unfold wpOp
   rw [hoi]
   simp only [wpList] at hw ⊢
   split
   ·rename_i hwt
    rw [if_pos hwt] at hw
    exact hw.imp (Oper.wp_mono hnext) id
   ·rename_i hwt
    rw [if_neg hwt] at hw
    exact hnext _ _ hw

theorem any_of_DT {base:List (Nat×AV)} {c:List Ch} {D:Done} {Q:QX X} {m f:Nat} (ht:tailB ops f m=true) (hD:D.length=m)
  (hstep:∀ i o,i<m→ops[i]?=some o→∃ x,D[i]?=some (o.dst,x)∧StepD X n ops (availL (D.take i) o.after.toList base) c o x)
  (hedge:∀ i o,ops[i]?=some o→∀ e∈o.after,Region.binds .any e=true→e.on<i)
  (hdist:∀ (i j:Nat) o o' d,ops[i]?=some o→ops[j]?=some o'→o.dst=some d→o'.dst=some d→i=j)
  (hbase:∀ (i:Nat) o d,ops[i]?=some o→o.dst=some d→get base d=none)
  (hfin:∀ e a w,Rel X n e ⟨finS base D,c⟩ a w→wpList P ops Q (ops.toList.drop m) a w) :
  ∀ (fuel:Nat) (listed:Array Bool) (a:Act) (w:World) (e:Env) (S:List (Nat×AV)),listed.size=ops.size→listed.toList.count false=fuel→Rel X n e ⟨S,c⟩ a w →
   (∀ j,m≤j→listed.getD j false=false)→ClosedL ops listed →
   (∀ k y,get base k=some y→get S k=some y)→(∀ (i:Nat) d x,listed.getD i false=true→D[i]?=some (some d,x)→get S d=some x) →
   wpAny P .any ops Q fuel listed a w:=by
 have ht':=ht
 unfold tailB at ht'
 simp only [Bool.and_eq_true,List.all_eq_true,List.mem_range,Array.length_toList] at ht'
 obtain ⟨⟨hm,hcov⟩,hch⟩:=ht'
 have hm':m<ops.size:=by have h:=hm;simp [Nat.blt] at h;omega
 have cnt:∀ (l:List Bool) (k:Nat),k≤l.length→(∀ j,j<l.length→(l[j]?=some true↔j<k))→l.count false+k=l.length:=by
  intro l
  induction l with
  | nil=>intro k hk _;simp at hk;simp [hk]
  | cons b l ih =>
   intro k hk h
   cases k with
   | zero =>
    have hb:b=false:=by
     have:=h 0 (by simp)
     cases b
     ·rfl
     ·simp at this
    subst hb
    have:=ih 0 (Nat.zero_le _) (fun j hj=>by have:=h (j+1) (by simpa using hj);simpa using this)
    simp at this ⊢;omega
   | succ k =>
    have hb:b=true:=by
     have:=h 0 (by simp)
     simpa using this
    subst hb
    have:=ih k (by simpa using hk) (fun j hj=>by have:=h (j+1) (by simpa using hj);simpa using this)
    simp at this ⊢;omega
 intro fuel
 induction fuel with
 | zero =>
  intro listed a w e S hsz hc r hge hcl hb hs
  exfalso
  have h1:=hge m (Nat.le_refl _)
  have hls:m<listed.size:=by omega
  have:false∈listed.toList:=by
   simp [hls] at h1
   exact List.mem_iff_getElem.2 ⟨m,by simpa using hls,by simpa using h1⟩
  have:=List.count_pos_iff.2 this
  omega
 | succ fuel ih =>
  intro listed a w e S hsz hc r hge hcl hb hs
  by_cases hall:∀ j,j<m→listed.getD j false=true
  · -- all that is drawn is done
   have hlt:∀ j,j<ops.size→(listed.getD j false=true↔j<m):=fun j hj=>by
    constructor
    ·intro h
     rcases Nat.lt_or_ge j m with h1|h1
     ·exact h1
     ·rw [hge j h1] at h;cases h
    ·exact hall j
   have hcount:listed.toList.count false+m=ops.size:=by
    have:=cnt listed.toList m (by simp;omega) (fun j hj=>by
     have hjl:j<listed.size:=by simpa using hj
     have:=hlt j (by omega)
     simp [hjl] at this ⊢
     exact this)
    simpa [hsz] using this
   refine any_tail ht hedge (fuel+1) m listed a w (by omega) (Nat.le_refl _) hsz hlt ?_
   refine hfin e a w (r.less (fun k y hk=>?_) id)
   rcases finS_get hk with ⟨i,hi⟩|h
   ·have hil:i<D.length:=by
     rcases Nat.lt_or_ge i D.length with h|h
     ·exact h
     ·rw [List.getElem?_eq_none h] at hi;cases hi
    exact hs i k y (hall i (by omega)) hi
   ·exact hb k y h
  -- what may come up now is drawn
  have hlow:∀ i∈Region.ready .any ops listed,i<m:=by
   intro i hi
   rw [mem_ready] at hi
   obtain ⟨h0,o,ho,hpre⟩:=hi
   rcases Nat.lt_or_ge i m with h|h
   ·exact h
   ·exfalso
    have hlt:i<ops.size:=(Array.getElem?_eq_some_iff.1 ho).1
    rcases Nat.eq_or_lt_of_le h with h|h
    ·subst h
     refine hall (fun j hj=>?_)
     have hc:=hcov j hj
     rw [List.contains_iff_mem] at hc
     refine ancs_listed hcl f m (fun q hq=>?_) j hc
     obtain ⟨o',ho',ed,he,hbb,rfl⟩:=mem_preds hq
     rw [ho] at ho';cases ho'
     exact hpre ed he hbb
    ·have hc:=hch (i-m-1) (by omega)
     rw [show m+1+(i-m-1)=i by omega,show m+(i-m-1)=i-1 by omega,List.contains_iff_mem] at hc
     obtain ⟨o',ho',ed,he,hbb,hon⟩:=mem_preds hc
     rw [ho] at ho';cases ho'
     have:=hpre ed he hbb
     rw [hon,hge (i-1) (by omega)] at this
     cases this
  refine ⟨fun hr=>?_,fun i hi=>?_⟩
  ·exfalso
   refine hall (fun j=>?_)
   induction j using Nat.strongRecOn with
   | ind j ihj =>
    intro hj
    cases hl:listed.getD j true with
    | true =>
     have:j<listed.size:=by omega
     simp [this] at hl ⊢
     exact hl
    | false =>
     exfalso
     have hmem:j∈Region.ready .any ops listed:=by
      rw [mem_ready]
      refine ⟨hl,ops[j],by simp [show j<ops.size by omega],fun e he hbb=>?_⟩
      have h1:=hedge j ops[j] (by simp [show j<ops.size by omega]) e he hbb
      exact ihj e.on h1 (by omega)
     rw [hr] at hmem;cases hmem
  ·have him:=hlow i hi
   rw [mem_ready] at hi
   obtain ⟨h0,o,ho,hpre⟩:=hi
   have hlt:i<ops.size:=(Array.getElem?_eq_some_iff.1 ho).1
   have hlf:listed.toList[i]?=some false:=by
    have:i<listed.size:=by omega
    simp [this] at h0 ⊢
    exact h0
   obtain ⟨x,hx,hst⟩:=hstep i o him ho
   unfold wpOp
   simp only [ho]
   refine hst e a w S _ Q r (fun k y hk=>?_) (fun e' a' w' r'=>?_)
   ·rcases availL_get hk with ⟨ed,h1,h2,h3⟩|h
    ·have h4:D[ed.on]?=some (some k,y):=by
      rw [List.getElem?_take] at h3
      split at h3
      ·exact h3
      ·cases h3
     exact hs ed.on k y (hpre ed (by simpa using h1) h2) h4
    ·exact hb k y h
   ·refine ih (listed.setIfInBounds i true) a' w' e' _ (by simpa using hsz) ?_ r' (fun j hj=>?_) (fun j oj hj hoj ed he hbb=>?_) (fun k y hk=>?_) (fun j d y hj hy=>?_)
    ·rw [Array.toList_setIfInBounds]
     have hlt':i<listed.toList.length:=by simpa using (by omega:i<listed.size)
     have hg:listed.toList[i]=false:=by
      have:=List.getElem?_eq_getElem hlt'
      rw [hlf] at this
      simpa using this.symm
     rw [List.count_set hlt',hg,hc]
     simp
    ·rw [getD_set_ne false (by omega:i≠j)]
     exact hge j hj
    ·by_cases hei:ed.on=i
     ·have hls:i<listed.size:=by omega
      rw [hei];simp [hls]
     ·rw [getD_set_ne false (Ne.symm hei)]
      by_cases hji:j=i
      ·subst hji
       rw [ho] at hoj;cases hoj
       exact hpre ed he hbb
      ·rw [getD_set_ne false (Ne.symm hji)] at hj
       exact hcl j oj hj hoj ed he hbb
    ·cases hd:o.dst with
     | none=>exact hb k y hk
     | some d =>
      simp only [putS]
      rw [get_cons]
      by_cases h:d=k
      ·subst h
       rw [hbase i o d ho hd] at hk
       cases hk
      ·rw [if_neg h];exact hb k y hk
    ·by_cases hji:j=i
     ·subst hji
      rw [hx] at hy
      simp only [Option.some.injEq,Prod.mk.injEq] at hy
      rw [hy.1,hy.2]
      simp only [putS]
      rw [get_cons,if_pos rfl]
     ·rw [getD_set_ne false (Ne.symm hji)] at hj
      have hold:=hs j d y hj hy
      cases hd:o.dst with
      | none=>exact hold
      | some d' =>
       simp only [putS]
       rw [get_cons]
       by_cases h:d'=d
       ·exfalso
        subst h
        have hjl:j<m:=by
         rw [← hD]
         rcases Nat.lt_or_ge j D.length with h|h
         ·exact h
         ·rw [List.getElem?_eq_none h] at hy;cases hy
        obtain ⟨x',hx',_⟩:=hstep j ops[j] hjl (by simp [show j<ops.size by omega])
        rw [hx'] at hy
        simp only [Option.some.injEq,Prod.mk.injEq] at hy
        exact hji (hdist j i ops[j] o d' (by simp [show j<ops.size by omega]) ho hy.1 hd)
       ·rw [if_neg h];exact hold

theorem C_drawT (f m:Nat) {id:Nat} {Q:Exit→St→Prop} {s base:List (Nat×AV)} {c:List Ch} (hb:eraseD ops.toList s=some base) (hchk:chkD base 0 [] ops.toList=true)
  (ht:tailB ops f m=true) (h:SymD X n ops base c (fun s=>SymO X n ops (ops.toList.drop m) s (fun s=>Q .normal s)) (ops.toList.take m) []):SymC X n (.region id ops true) ⟨s,c⟩ Q:=by
 intro e a w r
 have hbs:∀ k y,get base k=some y→get s k=some y:=fun k y hk=>eraseD_get hb hk
 obtain ⟨D,_,hl,hK,hs⟩:=h.plan
 obtain ⟨c1,c2⟩:=chkD_spec hchk
 have hbel:Below w.heap.size w { w with drawn:=w.drawn+1 }:=⟨rfl,rfl,rfl,Nat.le_refl _,fun _ _=>rfl⟩
 have hm:m<ops.size:=by
  unfold tailB at ht
  simp only [Bool.and_eq_true] at ht
  have h1:=ht.1.1
  simp [Nat.blt] at h1;omega
 refine wp_region_any X.wide ?_
 refine any_of_DT (X:=X) (Q:=concX X n Q) (n:=n) (base:=base) (c:=c) (D:=D) (f:=f) (m:=m) ht (by simp at hl;omega) (fun i o him ho=>?_) (fun i o ho=>?_) (fun i j o o' d hi hj=>c2 i j o o' d (by simpa using hi) (by simpa using hj)) (fun i o d ho hd=>((c1 i o (by simpa using ho)).2 d hd).1)
  (fun e a w r=>hK e a w (concX X n Q) r fun e' st' _ _ hk hr=>⟨e',st',hr,hk⟩) _ _ a _ e base (by simp) (by simp) ((r.below hbel).less hbs (fun h=>h)) (fun j hj=>?_) (fun j o hj=>?_) (fun k y hk=>hk) (fun i d x hi=>?_)
 ·have:=hs i o (by rw [List.getElem?_take,if_pos him];simpa using ho)
  simpa using this
 ·simpa using (c1 i o (by simpa using ho)).1
 ·rcases Nat.lt_or_ge j ops.size with h|h
  ·simp [h]
  ·simp [Nat.not_lt.2 h]
 ·rcases Nat.lt_or_ge j ops.size with h|h
  ·simp [h] at hj
  ·simp [Nat.not_lt.2 h] at hj
 ·rcases Nat.lt_or_ge i ops.size with h|h
  ·simp [h] at hi
  ·simp [Nat.not_lt.2 h] at hi
end
end Go.Sy

namespace Go.Sy
open Go.RowKit

def AV.noO (k:Nat):AV→Bool
 | .own j=>j != k
 | .ep j _ _ _=>j != k
 | .agg cs=>noOL k cs
 | .tup cs=>noOL k cs
 | .clo _ cs=>noOL k cs
 | .ifc _ x=>AV.noO k x
 | _=>true
where noOL (k:Nat):List AV→Bool
 | []=>true
 | c::cs=>AV.noO k c&&noOL k cs

section
variable {P:Program} {T:Tab} {X:Ctx P T} {n:Nat} {e:Env} {st:St} {a:Act} {w:World} {ops:Array Oper} {K:St→Prop}

abbrev RenM:=List (Nat×Nat)

end
end Go.Sy

namespace Go.Sy
open Go.RowKit

structure Pl where
 A:List (List Nat)
 E:List Nat
 cre:List (Nat×Nat)
 ki:List (Nat×Nat)

def Pl.anc (p:Pl) (i:Nat):List Nat:=p.A.getD i []
def Pl.ancB (p:Pl) (ops:Array Oper):Bool :=
 (List.range ops.toList.length).all fun i=>(p.anc i).all fun a=>(predsB ops i).contains a||(predsB ops i).any fun q=>(p.anc q).contains a
def Pl.lo (p:Pl) (i:Nat):Nat:=p.E.countP fun e=>(p.anc i).contains e
def Pl.hi (p:Pl) (i:Nat):Nat:=p.E.countP fun e=>!(Nat.beq e i)&&!((p.anc e).contains i)
def Pl.creB (p:Pl) (i:Nat) (x:AV):Bool:=p.cre.all fun q=>Nat.beq q.1 i||(p.anc i).contains q.1||x.no q.2
def Pl.okV (p:Pl) (r:Nat) (x:AV):Bool:=p.ki.all fun q=>x.noO q.2||Nat.beq r q.1||(p.anc q.1).contains r
def Pl.ends (p:Pl) (x:AV):Bool:=p.ki.all fun q=>x.noO q.2
def Pl.baseB (p:Pl):List (Nat×AV)→Bool
 | []=>true
 | (_,x)::r=>(p.cre.all fun q=>x.no q.2)&&(p.ki.all fun q=>x.noO q.2)&&p.baseB r

def availX (p:Pl) (r:Nat) (done:Done):List Edge→List (Nat×AV)→List (Nat×AV)
 | [],base=>base
 | e::es,base=>match Region.binds .any e,done[e.on]? with
  | true,some (some d,x)=>(match p.okV r x with
   | true=>(d,x)::availX p r done es base
   | false=>availX p r done es base)
  | _,_=>availX p r done es base
def killD (p:Pl):Done→Done
 | []=>[]
 | (d,x)::r=>match p.ends x with
  | true=>(d,x)::killD p r
  | false=>(none,x)::killD p r

theorem availX_get {p:Pl} {r:Nat} {done:Done} {base:List (Nat×AV)}:∀ {es:List Edge} {k:Nat} {y:AV},get (availX p r done es base) k=some y →
  (∃ e∈es,Region.binds .any e=true∧done[e.on]?=some (some k,y)∧p.okV r y=true)∨get base k=some y
 | [],k,y,h=>.inr h
 | e::es,k,y,h=>by
  have rec_:get (availX p r done es base) k=some y→(∃ e'∈e::es,Region.binds .any e'=true∧done[e'.on]?=some (some k,y)∧p.okV r y=true)∨get base k=some y:=fun h=>by
   rcases availX_get h with ⟨e',h1,h2⟩|h1
   ·exact .inl ⟨e',by simp [h1],h2⟩
   ·exact .inr h1
  simp only [availX] at h
  split at h
  ·rename_i d x hb hd
   split at h
   ·rename_i hok
    rw [get_cons] at h
    by_cases hk:d=k
    ·rw [if_pos hk] at h
     cases h
     subst hk
     exact .inl ⟨e,by simp,hb,hd,hok⟩
    ·rw [if_neg hk] at h
     exact rec_ h
   ·exact rec_ h
  ·exact rec_ h
theorem killD_get {p:Pl}:∀ {D:Done} {i:Nat} {d:Nat} {x:AV},(killD p D)[i]?=some (some d,x)→D[i]?=some (some d,x)∧p.ends x=true
 | [],i,d,x,h=>by simp [killD] at h
 | (d',x')::r,i,d,x,h=>by
  simp only [killD] at h
  cases i with
  | zero =>
   split at h
   ·rename_i he
    simp only [List.getElem?_cons_zero,Option.some.injEq,Prod.mk.injEq] at h
    obtain ⟨rfl,rfl⟩:=h
    exact ⟨rfl,he⟩
   ·simp at h
  | succ i =>
   have:(killD p r)[i]?=some (some d,x):=by split at h<;>simpa using h
   simpa using killD_get this

section
variable {P:Program} {T:Tab} {X:Ctx P T} {n:Nat} {e:Env} {st:St} {a:Act} {w:World} {ops:Array Oper} {K:St→Prop}

def UpdX (p:Pl) (i:Nat) (dst:Option Nat) (x:AV) (S S':List (Nat×AV)):Prop :=
 (∀ d,dst=some d→get S' d=some x) ∧
 (∀ k y,dst≠some k→get S k=some y→(∀ q∈p.ki,q.1=i→y.noO q.2=true)→get S' k=some y) ∧
 (∀ k y,get S' k=some y→(dst=some k∧y=x)∨get S k=some y∨y=.bad)

def StepX {P:Program} {T:Tab} (X:Ctx P T) (n:Nat) (ops:Array Oper) (p:Pl) (Si:List (Nat×AV)) (c c2:List Ch) (i:Nat) (o:Oper) (x:AV):Prop :=
 ∀ e a w S (K:Act→World→Prop) (Q:QX X),Rel X n e ⟨S,c⟩ a w→(∀ k y,get Si k=some y→get S k=some y) →
  (∀ k y,get S k=some y→∀ q∈p.cre,q.1=i→y.no q.2=true) →
  (∀ e' a' w' S',Rel X n e' ⟨S',c2⟩ a' w'→UpdX p i o.dst x S S'→K a' w') →
  if Region.wanted o (yielded ops a.tmps) then o.wp P a w K Q∨(o.asks P a w∧LetsOut Q) else K (a.put o.dst undef) w

theorem UpdX.put {p:Pl} {i:Nat} {dst:Option Nat} {x:AV} {S:List (Nat×AV)}:UpdX p i dst x S (putS dst x S):=by
 refine ⟨?_,?_,?_⟩
 ·rintro d rfl;simp only [putS];rw [get_cons,if_pos rfl]
 ·intro k y hk hy _
  cases dst with
  | none=>exact hy
  | some d=>simp only [putS];rw [get_cons,if_neg (fun h=>hk (by rw [h]))];exact hy
 ·intro k y hy
  cases dst with
  | none=>exact .inr (.inl hy)
  | some d =>
   simp only [putS] at hy
   rw [get_cons] at hy
   by_cases h:d=k
   ·rw [if_pos h] at hy;cases hy;exact .inl ⟨by rw [h],rfl⟩
   ·rw [if_neg h] at hy;exact .inr (.inl hy)

theorem StepD.toX {p:Pl} {Si:List (Nat×AV)} {c:List Ch} {i:Nat} {o:Oper} {x:AV} (h:StepD X n ops Si c o x):StepX X n ops p Si c c i o x :=
 fun e a w S K Q r hS _ hk=>h e a w S K Q r hS (fun e' a' w' r'=>hk e' a' w' _ r' UpdX.put)

theorem any_of_X {p:Pl} {base:List (Nat×AV)} {C:Nat→List Ch} {D:Done} {Q:QX X} (hE:∀ e∈p.E,e<ops.size) (hEn:p.E.Nodup) (hA:p.ancB ops=true) (hbse:p.baseB base=true) (hD:D.length=ops.size)
  (hstep:∀ i o,ops[i]?=some o→∃ x,D[i]?=some (o.dst,x)∧p.creB i x=true∧∀ ph,p.lo i≤ph→ph≤p.hi i→StepX X n ops p (availX p i (D.take i) o.after.toList base) (C ph) (C (if i∈p.E then ph+1 else ph)) i o x)
  (hedge:∀ i o,ops[i]?=some o→∀ e∈o.after,Region.binds .any e=true→e.on<i)
  (hdist:∀ (i j:Nat) o o' d,ops[i]?=some o→ops[j]?=some o'→o.dst=some d→o'.dst=some d→i=j)
  (hbase:∀ (i:Nat) o d,ops[i]?=some o→o.dst=some d→get base d=none)
  (hfin:∀ e a w,Rel X n e ⟨finS base (killD p D),C p.E.length⟩ a w→Q .normal a w) :
  ∀ (fuel:Nat) (listed:Array Bool) (a:Act) (w:World) (e:Env) (S:List (Nat×AV)),listed.size=ops.size→listed.toList.count false=fuel→ClosedL ops listed→Rel X n e ⟨S,C (p.E.countP fun e=>listed.getD e false)⟩ a w →
   (∀ k y,get base k=some y→get S k=some y) →
   (∀ (i:Nat) d x,listed.getD i false=true→D[i]?=some (some d,x)→(∀ q∈p.ki,listed.getD q.1 false=true→x.noO q.2=true)→get S d=some x) →
   (∀ k y,get S k=some y→∀ q∈p.cre,listed.getD q.1 false=false→y.no q.2=true) →
   wpAny P .any ops Q fuel listed a w:=by
 have bspec:∀ {l:List (Nat×AV)},p.baseB l=true→∀ k y,get l k=some y→(∀ q∈p.cre,y.no q.2=true)∧∀ q∈p.ki,y.noO q.2=true:=by
  intro l
  induction l with
  | nil=>intro _ k y h;simp [get] at h
  | cons z l ih =>
   obtain ⟨j,v⟩:=z
   intro h k y hy
   simp only [Pl.baseB,Bool.and_eq_true,List.all_eq_true] at h
   rw [get_cons] at hy
   by_cases hj:j=k
   ·rw [if_pos hj] at hy;cases hy;exact ⟨h.1.1,h.1.2⟩
   ·rw [if_neg hj] at hy;exact ih h.2 k y hy
 have ancL:∀ {listed:Array Bool},ClosedL ops listed→∀ i,i<ops.size→(∀ j∈predsB ops i,listed.getD j false=true)→∀ a∈p.anc i,listed.getD a false=true:=by
  intro listed hc i
  induction i using Nat.strongRecOn with
  | ind i ih =>
   intro hi hp a ha
   have h1:=List.all_eq_true.1 (List.all_eq_true.1 hA i (by simpa using hi)) a ha
   simp only [Bool.or_eq_true,List.contains_iff_mem,List.any_eq_true] at h1
   rcases h1 with h1|⟨q,hq,h1⟩
   ·exact hp a h1
   ·obtain ⟨o,ho,ed,he,hb,rfl⟩:=mem_preds hq
    have hlt:=hedge i o ho ed he hb
    refine ih ed.on hlt (by omega) (fun j hj=>?_) a h1
    obtain ⟨o',ho',ed',he',hb',rfl⟩:=mem_preds hj
    exact hc ed.on o' (hp _ hq) ho' ed' he' hb'
 have ancLd:∀ {listed:Array Bool},listed.size=ops.size→ClosedL ops listed→∀ i,listed.getD i false=true→∀ a∈p.anc i,listed.getD a false=true:=by
  intro listed hsz hc i hi
  have hlt:i<ops.size:=by
   rcases Nat.lt_or_ge i ops.size with h|h
   ·exact h
   ·rw [← hsz] at h;simp [Nat.not_lt.2 h] at hi
  refine ancL hc i hlt (fun j hj=>?_)
  obtain ⟨o,ho,ed,he,hb,rfl⟩:=mem_preds hj
  exact hc i o hi ho ed he hb
 have progress:∀ (listed:Array Bool),listed.size=ops.size→Region.ready .any ops listed=[]→∀ i,i<ops.size→listed.getD i false=true:=by
  intro listed hsz hr i
  induction i using Nat.strongRecOn with
  | ind i ih =>
   intro hi
   cases hl:listed.getD i true with
   | true =>
    have:i<listed.size:=by omega
    simp [this] at hl ⊢
    exact hl
   | false =>
    exfalso
    have hmem:i∈Region.ready .any ops listed:=by
     rw [mem_ready]
     refine ⟨hl,ops[i],by simp [hi],fun e he hb=>ih e.on (hedge i ops[i] (by simp [hi]) e he hb) ?_⟩
     have:=hedge i ops[i] (by simp [hi]) e he hb
     omega
    rw [hr] at hmem
    cases hmem
 have final:∀ (listed:Array Bool) a w e S,listed.size=ops.size→Region.ready .any ops listed=[]→Rel X n e ⟨S,C (p.E.countP fun e=>listed.getD e false)⟩ a w →
   (∀ k y,get base k=some y→get S k=some y)→(∀ (i:Nat) d x,listed.getD i false=true→D[i]?=some (some d,x)→(∀ q∈p.ki,listed.getD q.1 false=true→x.noO q.2=true)→get S d=some x)→Q .normal a w:=by
  intro listed a w e S hsz hr r hb hs
  have hcnt:(p.E.countP fun e=>listed.getD e false)=p.E.length:=by
   rw [List.countP_eq_length]
   intro e he
   exact progress listed hsz hr e (hE e he)
  rw [hcnt] at r
  refine hfin e a w (r.less (fun k y hk=>?_) (fun h=>h))
  rcases finS_get hk with ⟨i,hi⟩|h
  ·obtain ⟨hi,he⟩:=killD_get hi
   have hlt:i<D.length:=by
    rcases Nat.lt_or_ge i D.length with h|h
    ·exact h
    ·rw [List.getElem?_eq_none h] at hi;cases hi
   exact hs i k y (progress listed hsz hr i (by omega)) hi (fun q hq _=>List.all_eq_true.1 he q hq)
  ·exact hb k y h
 intro fuel
 induction fuel with
 | zero =>
  intro listed a w e S hsz hc hcl r hb hs hcr
  have hall:∀ i,i<listed.size→listed.getD i true=true:=by
   intro i hi
   cases hl:listed.getD i true with
   | true=>rfl
   | false =>
    exfalso
    have:false∈listed.toList:=by
     simp [hi] at hl
     exact List.mem_iff_getElem.2 ⟨i,by simpa using hi,by simpa using hl⟩
    have:=List.count_pos_iff.2 this
    omega
  have hr:Region.ready .any ops listed=[]:=by
   cases hrr:Region.ready .any ops listed with
   | nil=>rfl
   | cons j js =>
    exfalso
    have hm:j∈Region.ready .any ops listed:=by rw [hrr];simp
    rw [mem_ready] at hm
    obtain ⟨h0,o,ho,_⟩:=hm
    have hlt:j<ops.size:=(Array.getElem?_eq_some_iff.1 ho).1
    rw [hall j (by omega)] at h0
    cases h0
  exact ⟨hr,final listed a w e S hsz hr r hb hs⟩
 | succ fuel ih =>
  intro listed a w e S hsz hc hcl r hb hs hcr
  refine ⟨fun hr=>final listed a w e S hsz hr r hb hs,fun i hi=>?_⟩
  rw [mem_ready] at hi
  obtain ⟨h0,o,ho,hpre⟩:=hi
  have hlt:i<ops.size:=(Array.getElem?_eq_some_iff.1 ho).1
  have hif:listed.getD i false=false:=by
   have:i<listed.size:=by omega
   simp [this] at h0 ⊢
   exact h0
  have hlf:listed.toList[i]?=some false:=by
   have:i<listed.size:=by omega
   simp [this] at h0 ⊢
   exact h0
  have hpl:∀ j∈predsB ops i,listed.getD j false=true:=by
   intro j hj
   obtain ⟨o',ho',ed,he,hb',rfl⟩:=mem_preds hj
   rw [ho] at ho'
   cases ho'
   exact hpre ed he hb'
  have hanc:=ancL hcl i hlt hpl
  obtain ⟨x,hx,hcre,hst⟩:=hstep i o ho
  unfold wpOp
  simp only [ho]
  have hlo:p.lo i≤p.E.countP fun e=>listed.getD e false:=by
   refine List.countP_mono_left (fun e he h=>?_)
   simp only [List.contains_iff_mem] at h
   exact hanc e h
  have hhi:(p.E.countP fun e=>listed.getD e false)≤p.hi i:=by
   refine List.countP_mono_left (fun e he h=>?_)
   have h:listed.getD e false=true:=h
   simp only [Bool.and_eq_true,Bool.not_eq_true']
   refine ⟨?_,?_⟩
   ·cases hb:Nat.beq e i with
    | false=>rfl
    | true=>have:=Nat.eq_of_beq_eq_true hb;subst this;rw [hif] at h;cases h
   ·cases hb:(p.anc e).contains i with
    | false=>rfl
    | true =>
     simp only [List.contains_iff_mem] at hb
     rw [ancLd hsz hcl e h i hb] at hif;cases hif
  have hav:∀ k y,get (availX p i (D.take i) o.after.toList base) k=some y→get S k=some y:=by
   intro k y hk
   rcases availX_get hk with ⟨ed,h1,h2,h3,h5⟩|h
   ·have h4:D[ed.on]?=some (some k,y):=by
     rw [List.getElem?_take] at h3
     split at h3
     ·exact h3
     ·cases h3
    refine hs ed.on k y (hpre ed (by simpa using h1) h2) h4 (fun q hq hql=>?_)
    have h6:=List.all_eq_true.1 h5 q hq
    simp only [Bool.or_eq_true,List.contains_iff_mem] at h6
    rcases h6 with (h6|h6)|h6
    ·exact h6
    ·have:=Nat.eq_of_beq_eq_true h6
     rw [← this,hif] at hql;cases hql
    ·rw [ancLd hsz hcl q.1 hql i h6] at hif;cases hif
   ·exact hb k y h
  have hset:∀ j,j≠i→(listed.setIfInBounds i true).getD j false=listed.getD j false:=fun j hj=>getD_set_ne false (Ne.symm hj)
  have hseti:(listed.setIfInBounds i true).getD i false=true:=by
   have:i<listed.size:=by omega
   simp [this]
  have hphn:(p.E.countP fun e=>(listed.setIfInBounds i true).getD e false)=(if i∈p.E then (p.E.countP fun e=>listed.getD e false)+1 else p.E.countP fun e=>listed.getD e false):=by
   clear hstep hfin hst hav hlo hhi hE ih r hs hcr hA hbse
   generalize p.E=E at hEn ⊢
   induction E with
   | nil=>simp
   | cons q E ihE =>
    simp only [List.nodup_cons] at hEn
    have ih2:=ihE hEn.2
    rw [List.countP_cons,List.countP_cons,ih2]
    by_cases hq:q=i
    ·subst hq
     rw [hseti,hif]
     simp [hEn.1]
    ·rw [hset q hq]
     have:(i∈q::E)↔i∈E:=by simp [Ne.symm hq]
     simp only [this]
     split<;>omega
  refine hst _ hlo hhi e a w S _ Q r hav (fun k y hy q hq hqi=>hcr k y hy q hq (by rw [hqi];exact hif)) (fun e' a' w' S' r' hu=>?_)
  refine ih (listed.setIfInBounds i true) a' w' e' S' (by simpa using hsz) ?_ ?_ (by rw [hphn];exact r') (fun k y hk=>?_) (fun j d y hj hy hq=>?_) (fun k y hy q hq hql=>?_)
  ·rw [Array.toList_setIfInBounds]
   have hlt':i<listed.toList.length:=by simpa using (by omega:i<listed.size)
   have hg:listed.toList[i]=false:=by
    have:=List.getElem?_eq_getElem hlt'
    rw [hlf] at this
    simpa using this.symm
   rw [List.count_set hlt',hg,hc]
   simp
  ·intro j o' hj ho' ed he hb'
   by_cases hji:j=i
   ·subst hji
    rw [ho] at ho';cases ho'
    have:=hpre ed he hb'
    by_cases h:ed.on=j
    ·rw [h];exact hseti
    ·rw [hset _ h];exact this
   ·rw [hset j hji] at hj
    have:=hcl j o' hj ho' ed he hb'
    by_cases h:ed.on=i
    ·rw [h];exact hseti
    ·rw [hset _ h];exact this
  ·refine hu.2.1 k y (fun h=>?_) (hb k y hk) (fun q hq _=>(bspec hbse k y hk).2 q hq)
   rw [hbase i o k ho h] at hk;cases hk
  ·by_cases hji:j=i
   ·subst hji
    rw [hx] at hy
    simp only [Option.some.injEq,Prod.mk.injEq] at hy
    rw [← hy.2]
    exact hu.1 d hy.1
   ·rw [hset j hji] at hj
    have hold:=hs j d y hj hy (fun q hqk hql=>hq q hqk (by
     by_cases h:q.1=i
     ·rw [h];exact hseti
     ·rw [hset _ h];exact hql))
    refine hu.2.1 d y (fun h=>?_) hold (fun q hqk hqi=>hq q hqk (by rw [hqi];exact hseti))
    have hjl:j<ops.size:=by
     rw [← hD]
     rcases Nat.lt_or_ge j D.length with h|h
     ·exact h
     ·rw [List.getElem?_eq_none h] at hy;cases hy
    obtain ⟨x',hx',_⟩:=hstep j ops[j] (by simp [hjl])
    rw [hx'] at hy
    simp only [Option.some.injEq,Prod.mk.injEq] at hy
    exact hji (hdist j i ops[j] o d (by simp [hjl]) ho hy.1 h)
  ·have hqi:q.1≠i:=fun h=>by rw [h,hseti] at hql;cases hql
   rw [hset _ hqi] at hql
   rcases hu.2.2 k y hy with ⟨_,rfl⟩|h|rfl
   ·have h6:=List.all_eq_true.1 hcre q hq
    simp only [Bool.or_eq_true,List.contains_iff_mem] at h6
    rcases h6 with (h6|h6)|h6
    ·exact absurd (Nat.eq_of_beq_eq_true h6) hqi
    ·rw [hanc q.1 h6] at hql;cases hql
    ·exact h6
   ·exact hcr k y h q hq hql
   ·rfl

def SymX {P:Program} {T:Tab} (X:Ctx P T) (n:Nat) (ops:Array Oper) (p:Pl) (base:List (Nat×AV)) (C:Nat→List Ch) (K:St→Prop):List Oper→Done→Prop
 | [],done=>K ⟨finS base (killD p done),C p.E.length⟩
 | o::rest,done=>∃ x,(p.creB done.length x=true∧∀ ph,p.lo done.length≤ph→ph≤p.hi done.length→StepX X n ops p (availX p done.length done o.after.toList base) (C ph) (C (if done.length∈p.E then ph+1 else ph)) done.length o x) ∧
   SymX X n ops p base C K rest (done++[(o.dst,x)])

theorem SymX.plan {p:Pl} {base:List (Nat×AV)} {C:Nat→List Ch}:∀ {l:List Oper} {done:Done},SymX X n ops p base C K l done →
  ∃ D:Done,done <+: D∧D.length=done.length+l.length∧K ⟨finS base (killD p D),C p.E.length⟩ ∧
   ∀ i o,l[i]?=some o→∃ x,D[done.length+i]?=some (o.dst,x)∧p.creB (done.length+i) x=true ∧
    ∀ ph,p.lo (done.length+i)≤ph→ph≤p.hi (done.length+i)→StepX X n ops p (availX p (done.length+i) (D.take (done.length+i)) o.after.toList base) (C ph) (C (if done.length+i∈p.E then ph+1 else ph)) (done.length+i) o x
 | [],done,h=>⟨done,List.prefix_refl _,by simp,h,fun i o hi=>by simp at hi⟩
 | o::rest,done,h=>by
  obtain ⟨x,h1,h2⟩:=h
  obtain ⟨D,hp,hl,hK,hs⟩:=SymX.plan h2
  have hp':done <+: D:=(List.prefix_append done _).trans hp
  refine ⟨D,hp',by simp at hl ⊢;omega,hK,fun i o' hi=>?_⟩
  cases i with
  | zero =>
   simp only [List.getElem?_cons_zero,Option.some.injEq] at hi
   subst hi
   refine ⟨x,?_,?_⟩
   ·obtain ⟨t,rfl⟩:=hp
    simp
   ·obtain ⟨t,rfl⟩:=hp'
    simpa using h1
  | succ i =>
   obtain ⟨y,g1,g2⟩:=hs i o' (by simpa using hi)
   refine ⟨y,?_,?_⟩
   ·simpa [Nat.add_assoc,Nat.add_comm 1 i] using g1
   ·simpa [Nat.add_assoc,Nat.add_comm 1 i] using g2

def Pl.fine (p:Pl) (ops:Array Oper) (base:List (Nat×AV)):Bool :=
 p.ancB ops&&p.baseB base&&(p.E.all fun e=>Nat.blt e ops.toList.length)&&chkD base 0 [] ops.toList

theorem C_drawX (p:Pl) {id:Nat} {Q:Exit→St→Prop} {s base:List (Nat×AV)} {c:List Ch} (C:Nat→List Ch) (hb:eraseD ops.toList s=some base) (hchk:p.fine ops base=true) (hEn:p.E.Nodup) (h0:C 0=c)
  (h:SymX X n ops p base C (fun s=>Q .normal s) ops.toList []):SymC X n (.region id ops true) ⟨s,c⟩ Q:=by
 intro e a w r
 have hbs:∀ k y,get base k=some y→get s k=some y:=fun k y hk=>eraseD_get hb hk
 simp only [Pl.fine,Bool.and_eq_true] at hchk
 obtain ⟨⟨⟨g1,g2⟩,g3⟩,g4⟩:=hchk
 obtain ⟨D,_,hl,hK,hs⟩:=h.plan
 obtain ⟨c1,c2⟩:=chkD_spec g4
 have hbel:Below w.heap.size w { w with drawn:=w.drawn+1 }:=⟨rfl,rfl,rfl,Nat.le_refl _,fun _ _=>rfl⟩
 have hEs:∀ e∈p.E,e<ops.size:=fun e he=>by
  have:=List.all_eq_true.1 g3 e he
  simp [Nat.blt] at this;omega
 refine wp_region_any X.wide ?_
 have hrep:∀ i,(Array.replicate ops.size false).getD i false=false:=fun i=>by
  rcases Nat.lt_or_ge i ops.size with h|h
  ·simp [h]
  ·simp [Nat.not_lt.2 h]
 refine any_of_X (X:=X) (Q:=concX X n Q) (n:=n) (p:=p) (base:=base) (C:=C) (D:=D) hEs hEn g1 g2 (by simpa using hl) (fun i o ho=>?_) (fun i o ho=>?_) (fun i j o o' d hi hj=>c2 i j o o' d (by simpa using hi) (by simpa using hj)) (fun i o d ho hd=>((c1 i o (by simpa using ho)).2 d hd).1)
  (fun e a w r=>⟨e,_,r,hK⟩) _ _ a _ e base (by simp) (by simp) (fun j o hj=>by rw [hrep] at hj;cases hj) ?_ (fun k y hk=>hk) (fun i d x hi=>by rw [hrep] at hi;cases hi) ?_
 ·have:=hs i o (by simpa using ho)
  simpa using this
 ·simpa using (c1 i o (by simpa using ho)).1
 ·have h1:(p.E.countP fun e=>(Array.replicate ops.size false).getD e false)=0:=by
   rw [List.countP_eq_zero]
   intro e _
   rw [hrep];simp
  rw [h1,h0]
  exact (r.below hbel).less hbs (fun h=>h)
 ·intro k y hy q hq _
  have:∀ {l:List (Nat×AV)},p.baseB l=true→get l k=some y→y.no q.2=true:=by
   intro l
   induction l with
   | nil=>intro _ h;simp [get] at h
   | cons z l ih =>
    obtain ⟨j,v⟩:=z
    intro h hy
    simp only [Pl.baseB,Bool.and_eq_true,List.all_eq_true] at h
    rw [get_cons] at hy
    by_cases hj:j=k
    ·rw [if_pos hj] at hy;cases hy;exact h.1.1 q hq
    ·rw [if_neg hj] at hy;exact ih h.2 hy
  exact this g2 hy
end
end Go.Sy

namespace Go.Sy
open Go.RowKit

section
variable {P:Program} {T:Tab} {X:Ctx P T} {n:Nat} {e:Env} {st:St} {a:Act} {w:World} {ops:Array Oper} {K:St→Prop}

def pl0:Pl:=⟨[],[],[],[]⟩

theorem O_X {o:Oper} {x:AV} {rest:List Oper} {s:List (Nat×AV)} {c c2:List Ch} (h:StepX X n ops pl0 s c c2 0 o x) (k:SymO X n ops rest ⟨putS o.dst x s,c2⟩ K):SymO X n ops (o::rest) ⟨s,c⟩ K:=by
 intro e a w Q r hq
 unfold wpList
 exact h e a w s (fun a' w'=>wpList P ops Q rest a' w') Q r (fun _ _ h=>h) (fun _ _ _ q hq=>by cases hq) (fun e' a' w' S' r' hu=>k e' a' w' Q (r'.less (fun i y hy=>by
  cases hd:o.dst with
  | none =>
   rw [hd] at hy
   exact hu.2.1 i y (by rw [hd];intro h;cases h) hy (fun q hq=>by cases hq)
  | some d =>
   rw [hd] at hy
   simp only [putS] at hy
   rw [get_cons] at hy
   by_cases hdi:d=i
   ·rw [if_pos hdi] at hy;cases hy;subst hdi;exact hu.1 d hd
   ·rw [if_neg hdi] at hy
    exact hu.2.1 i y (by rw [hd];intro h;cases h;exact hdi rfl) hy (fun q hq=>by cases hq)) (fun h=>h)) hq)

theorem O_Xd {d:Nat} {op:Op} {ty:TypeId} {pos:String} {aft:Array Edge} {gd:Option (Nat×Bool)} {x:AV} {rest:List Oper} {s:List (Nat×AV)} {c c2:List Ch} (h:StepX X n ops pl0 s c c2 0 ⟨some d,op,ty,pos,aft,gd⟩ x) (k:SymO X n ops rest ⟨(d,x)::s,c2⟩ K):SymO X n ops (⟨some d,op,ty,pos,aft,gd⟩::rest) ⟨s,c⟩ K:=O_X h k
theorem O_Xn {op:Op} {ty:TypeId} {pos:String} {aft:Array Edge} {gd:Option (Nat×Bool)} {x:AV} {rest:List Oper} {s:List (Nat×AV)} {c c2:List Ch} (h:StepX X n ops pl0 s c c2 0 ⟨none,op,ty,pos,aft,gd⟩ x) (k:SymO X n ops rest ⟨s,c2⟩ K):SymO X n ops (⟨none,op,ty,pos,aft,gd⟩::rest) ⟨s,c⟩ K:=O_X h k

theorem StepX.val {p:Pl} {Si:List (Nat×AV)} {c c2:List Ch} {i:Nat} {o:Oper} {x:AV} (hg:guardA ops ⟨Si,c⟩ o=some true) (hd:dstOK n o.dst=true)
  (h:∀ e a w S,Rel X n e ⟨S,c⟩ a w→Rel X n e ⟨Si,c⟩ a w→∃ v w' e',(execOp a.eval o).run P w=.ok (.value v) w'∧Rel X n e' ⟨S,c2⟩ a w'∧Rep e' x v):StepX X n ops p Si c c2 i o x:=by
 intro e a w S K Q r hS _ hk
 have r':Rel X n e ⟨Si,c⟩ a w:=r.less hS (fun h=>h)
 rw [if_pos (guardA_sound r' hg)]
 obtain ⟨v,w',e',h1,h2,h3⟩:=h e a w S r r'
 refine .inl ?_
 unfold Oper.wp
 rw [h1]
 exact hk e' _ _ _ (putOK h2 hd h3) UpdX.put

theorem StepX.skip {p:Pl} {Si:List (Nat×AV)} {c c2:List Ch} {i:Nat} {o:Oper} (hg:guardA ops ⟨Si,c⟩ o=some true) (hd:o.dst=none)
  (h:∀ e a w S,Rel X n e ⟨S,c⟩ a w→Rel X n e ⟨Si,c⟩ a w→∃ w' e',(execOp a.eval o).run P w=.ok .skip w'∧Rel X n e' ⟨S,c2⟩ a w'):StepX X n ops p Si c c2 i o .bad:=by
 intro e a w S K Q r hS _ hk
 have r':Rel X n e ⟨Si,c⟩ a w:=r.less hS (fun h=>h)
 rw [if_pos (guardA_sound r' hg)]
 obtain ⟨w',e',h1,h2⟩:=h e a w S r r'
 refine .inl ?_
 unfold Oper.wp
 rw [h1]
 have:=hk e' a w' (putS o.dst .bad S) (by rw [hd];exact h2) UpdX.put
 unfold Oper.upon
 show K (a.put o.dst undef) w'
 rw [hd]
 exact this

theorem X_still {p:Pl} {Si:List (Nat×AV)} {c:List Ch} {i:Nat} {o:Oper} {x:AV} (hg:guardA ops ⟨Si,c⟩ o=some true) (hd:dstOK n o.dst=true) (hs:still T ⟨Si,c⟩ o.op=some x):StepX X n ops p Si c c i o x :=
 StepX.val hg hd (fun e a w S r r'=>by
  obtain ⟨v,h2,h1⟩:=still_sound r' hs
  exact ⟨v,w,e,h1 w (SameAs.refl w),r,h2⟩)
theorem X_still1 {p:Pl} {Si:List (Nat×AV)} {c:List Ch} {i:Nat} {o:Oper} {x:AV} {vc:Prop} (hg:guardA ops ⟨Si,c⟩ o=some true) (hd:dstOK n o.dst=true) (hs:still1 T ⟨Si,c⟩ o.op=some (vc,x)) (hv:vc):StepX X n ops p Si c c i o x :=
 StepX.val hg hd (fun e a w S r r'=>by
  obtain ⟨v,h2,h1⟩:=still1_sound r' hs hv
  exact ⟨v,w,e,h1 w (SameAs.refl w),r,h2⟩)
theorem X_none {p:Pl} {Si:List (Nat×AV)} {c:List Ch} {i:Nat} {o:Oper} (hg:guardA ops ⟨Si,c⟩ o=some false) (hd:dstOK n o.dst=true):StepX X n ops p Si c c i o (.tup []):=by
 intro e a w S K Q r hS _ hk
 have r':Rel X n e ⟨Si,c⟩ a w:=r.less hS (fun h=>h)
 rw [if_neg (by rw [guardA_sound r' hg];decide)]
 exact hk _ _ _ _ (putOK r hd (by simp [Rep,RepT,undef])) UpdX.put

def stillX (T:Tab) (st:St) (op:Op):Option (Prop×AV) :=
 match still T st op with
 | some x=>some (True,x)
 | none=>match still1 T st op with
  | some q=>some q
  | none=>match buildA T st op with
   | some x=>some (True,x)
   | none=>none
theorem X_stillX {p:Pl} {Si:List (Nat×AV)} {c:List Ch} {i:Nat} {o:Oper} {x:AV} {vc:Prop} (hg:guardA ops ⟨Si,c⟩ o=some true) (hd:dstOK n o.dst=true) (hs:stillX T ⟨Si,c⟩ o.op=some (vc,x)) (hv:vc):StepX X n ops p Si c c i o x:=by
 unfold stillX at hs
 split at hs
 ·rename_i y hy
  simp only [Option.some.injEq,Prod.mk.injEq] at hs
  rw [← hs.2]
  exact X_still hg hd hy
 ·split at hs
  ·rename_i q hq
   simp only [Option.some.injEq] at hs
   subst hs
   exact X_still1 hg hd hq hv
  ·split at hs
   ·rename_i y hy
    simp only [Option.some.injEq,Prod.mk.injEq] at hs
    rw [← hs.2]
    exact StepX.val hg hd (fun e a w S r r'=>by
     obtain ⟨v,h2,h1⟩:=buildA_sound r' hy
     exact ⟨v,w,e,h1 w,r,h2⟩)
   ·cases hs
theorem StepX.any {p:Pl} {Si:List (Nat×AV)} {c:List Ch} {i:Nat} {o:Oper} {x:AV} {vc:Prop} (hg:guardA ops ⟨Si,[]⟩ o=some true) (hd:dstOK n o.dst=true) (hs:stillX T ⟨Si,[]⟩ o.op=some (vc,x)) (hv:vc):StepX X n ops p Si c c i o x:=by
 intro e a w S K Q r hS hcr hk
 have r':Rel X n e ⟨Si,[]⟩ a w:=r.less hS (fun h=>⟨[],rfl,fun _ h=>(by cases h),by simp,fun _ h=>(by cases h)⟩)
 rw [if_pos (guardA_sound r' hg)]
 have key:∃ v,Rep e x v∧(execOp a.eval o).run P w=.ok (.value v) w:=by
  unfold stillX at hs
  split at hs
  ·rename_i y hy
   simp only [Option.some.injEq,Prod.mk.injEq] at hs
   rw [← hs.2]
   obtain ⟨v,h2,h1⟩:=still_sound r' hy
   exact ⟨v,h2,h1 w (SameAs.refl w)⟩
  ·split at hs
   ·rename_i q hq
    simp only [Option.some.injEq] at hs
    subst hs
    obtain ⟨v,h2,h1⟩:=still1_sound r' hq hv
    exact ⟨v,h2,h1 w (SameAs.refl w)⟩
   ·split at hs
    ·rename_i y hy
     simp only [Option.some.injEq,Prod.mk.injEq] at hs
     rw [← hs.2]
     obtain ⟨v,h2,h1⟩:=buildA_sound r' hy
     exact ⟨v,h2,h1 w⟩
    ·cases hs
 obtain ⟨v,h2,h1⟩:=key
 refine .inl ?_
 unfold Oper.wp
 rw [h1]
 exact hk _ _ _ _ (putOK r hd h2) UpdX.put

def stepXK {P:Program} {T:Tab} (X:Ctx P T) (n:Nat) (ops:Array Oper) (p:Pl) (base:List (Nat×AV)) (C:Nat→List Ch) (K:St→Prop):List Oper→Done→Option Prop
 | [],done=>normG (finS base (killD p done)) fun s=>some (K ⟨s,C p.E.length⟩)
 | o::rest,done=>normG (availX p done.length done o.after.toList base) fun Si=>match guardA ops ⟨Si,[]⟩ o,dstOK n o.dst with
  | some true,true=>(match stillX T ⟨Si,[]⟩ o.op with
   | some (vc,x)=>normA x fun x=>(match p.creB done.length x,!(p.E.contains done.length) with
    | true,true=>normG (done++[(o.dst,x)]) fun done=>some (vc∧SymX X n ops p base C K rest done)
    | _,_=>none)
   | none=>none)
  | some false,true=>(match p.creB done.length (.tup []),!(p.E.contains done.length) with
    | true,true=>normG (done++[(o.dst,.tup [])]) fun done=>some (SymX X n ops p base C K rest done)
    | _,_=>none)
  | _,_=>none

theorem not_mem_of_contains {l:List Nat} {k:Nat} (h:(!(l.contains k))=true):k∉l:=by
 simp at h;exact h

theorem guardA_any {Si:List (Nat×AV)} {c c':List Ch} {o:Oper}:guardA ops ⟨Si,c⟩ o=guardA ops ⟨Si,c'⟩ o:=by
 unfold guardA
 rfl

theorem sx {p:Pl} {base:List (Nat×AV)} {C:Nat→List Ch} {l:List Oper} {done:Done} {q:Prop} (h:stepXK X n ops p base C K l done=some q) (hq:q):SymX X n ops p base C K l done:=by
 cases l with
 | nil =>
  simp only [stepXK,normG_eq,Option.some.injEq] at h
  subst h
  exact hq
 | cons o rest =>
  simp only [stepXK,normG_eq,normA_eq] at h
  split at h
  ·rename_i hg hd
   split at h
   ·rename_i vc x hs
    split at h
    ·rename_i hc hE
     simp only [Option.some.injEq] at h
     subst h
     refine ⟨x,⟨hc,fun ph _ _=>?_⟩,hq.2⟩
     rw [if_neg (not_mem_of_contains hE)]
     exact StepX.any hg hd hs hq.1
    ·cases h
   ·cases h
  ·rename_i hg hd
   split at h
   ·rename_i hc hE
    simp only [Option.some.injEq] at h
    subst h
    refine ⟨.tup [],⟨hc,fun ph _ _=>?_⟩,hq⟩
    rw [if_neg (not_mem_of_contains hE)]
    exact X_none (by rw [guardA_any (c':=[])];exact hg) hd
   ·cases h
  ·cases h

theorem SX {p:Pl} {base:List (Nat×AV)} {C:Nat→List Ch} {o:Oper} {rest:List Oper} {done:Done} (x:AV) (hc:p.creB done.length x=true)
  (h:∀ ph,p.lo done.length≤ph→ph≤p.hi done.length→StepX X n ops p (availX p done.length done o.after.toList base) (C ph) (C (if done.length∈p.E then ph+1 else ph)) done.length o x)
  (k:normG (done++[(o.dst,x)]) fun done=>SymX X n ops p base C K rest done):SymX X n ops p base C K (o::rest) done:=by
 rw [normG_eq] at k
 exact ⟨x,⟨hc,h⟩,k⟩

theorem X_loadP (q:Nat) {p:Pl} {A:Abs} {cells:List AV} {t:TypeId} {i:TI} {x:Operand} {d:Option Nat} {b o:Nat} {av:AV} {ty:TypeId} {pos:String} {aft:Array Edge} {gd:Option (Nat×Bool)} {j:Nat} {Si:List (Nat×AV)} {c cr:List Ch}
  (hR:Reads A b o cells) (hg:guardA ops ⟨Si,c⟩ ⟨d,.load t x,ty,pos,aft,gd⟩=some true) (hx:opd Si x=some (PT b o)) (hp:nthA q c=some (A,cr)) (hT:T t=some i) (hl:loadA i cells=some av) (hd:dstOK n d=true) :
  StepX X n ops p Si c c j ⟨d,.load t x,ty,pos,aft,gd⟩ av :=
 StepX.val hg hd (fun e a w S r r'=>by
  have h1:=opd_sound r' hx
  simp only [Rep] at h1
  obtain ⟨hok,_⟩:=r.heap.nth hp
  have hrd:Readable e w b o cells:=fun j c hc=>by
   obtain ⟨z,z1,z2,z3⟩:=hR _ _ hok j c hc
   exact ⟨z,z1,RepI.toRep c z2,z3⟩
  obtain ⟨v,g4,g3⟩:=load_sound X.ok hT hrd hl
  refine ⟨v,w,e,?_,r,g4⟩
  simp only [execOp,h1,Instr.loadAt,Instr.sureAddr,Sem.run_bind,Sem.run_pure,Result.andThen_ok,g3 w (SameAs.refl w)])

theorem X_storeP (q:Nat) {p:Pl} {A A':Abs} {t:TypeId} {by_:Nat} {z:List Value} {dd:TD} {ad xo:Operand} {b o:Nat} {x:AV} {ty:TypeId} {pos:String} {aft:Array Edge} {gd:Option (Nat×Bool)} {j:Nat} {Si:List (Nat×AV)} {c cr:List Ch}
  (hW:Writes A b o x A') (hg:guardA ops ⟨Si,c⟩ ⟨none,.store t ad xo,ty,pos,aft,gd⟩=some true) (hT:T t=some ⟨1,by_,false,z,dd⟩) (hp:nthA q c=some (A,cr)) (had:opd Si ad=some (PT b o)) (hx:opd Si xo=some x) (hcb:x.cellB=true) (himm:x.imm=true) :
  StepX X n ops p Si c (.abs A'::cr) j ⟨none,.store t ad xo,ty,pos,aft,gd⟩ .bad :=
 StepX.skip hg rfl (fun e a w S r r'=>by
  have h1:=opd_sound r' had
  have h2:=opd_sound r' hx
  simp only [Rep] at h1
  have hv:=cellB_one h2 hcb
  obtain ⟨hok,_⟩:=r.heap.nth hp
  obtain ⟨w1,w2,w3⟩:=hW.2.2 _ _ _ hok (Rep.toI x himm h2) hv
  have hrun:=run_store1 (w:=w) (ρ:=a.eval) (ty:=ty) (pos:=pos) (aft:=aft) (gd:=gd) X.ok hT h1 rfl hv w1 w2
  exact ⟨_,e,hrun,r.absWrite (st:=⟨S,c⟩) hp hW.1 hW.2.1 w3⟩)

theorem X_callA (is:List Nat) {p:Pl} {f:FuncId} {dst:Nat} {args:Array Operand} {tys:Array TypeId} {ty:TypeId} {pos:String} {aft:Array Edge} {gd:Option (Nat×Bool)} {j:Nat} {avs:List AV} {cs cs1:List Abs} {cr:List Ch} {x:AV}
  {Si:List (Nat×AV)} {c:List Ch} (hf:FnA P f avs cs (fun r cs'=>r=x∧cs'=cs1)) (hg:guardA ops ⟨Si,c⟩ ⟨some dst,.call ⟨.value (.func f),args,tys⟩,ty,pos,aft,gd⟩=some true) (ha:opds Si args.toList=some avs) (himm:AV.imm.immL avs=true)
  (hp:pickA is c=some (cs,cr)) (hd:Nat.blt dst n=true) :
  StepX X n ops p Si c (cs1.map Ch.abs++cr) j ⟨some dst,.call ⟨.value (.func f),args,tys⟩,ty,pos,aft,gd⟩ x:=by
 intro e a w S K Q r hS _ hk
 have r':Rel X n e ⟨Si,c⟩ a w:=r.less hS (fun h=>h)
 rw [if_pos (guardA_sound r' hg)]
 refine .inl ?_
 unfold Oper.wp
 rw [run_call hf.1 a.eval rfl w,Oper.upon_enter]
 have h1:=RepT.toI avs himm (opds_sound r' ha)
 rw [map_eval]
 have hd2:=(r.heap.perm (pickA_perm hp)).absOK
 refine (hf.2 e.G w _ ⟨r.im,r.mz⟩ h1 hd2.1).mono ?_
 rintro en w' ⟨rv,cv,cs',G',⟨rfl,rfl⟩,rfl,g1,g2,g3,g4,g5,g6,o1,o2,o3,o4,o5⟩
 have r2:=r.swapAbs (st:=⟨S,c⟩) (pickA_perm hp) g2 g4 g3 g5 g6 ⟨o1,o2,o3⟩ o4 o5
 exact hk _ _ _ _ (r2.put hd (RepI.toRep (e:=⟨G',e.μ,e.hd⟩) rv g1)) UpdX.put

def slO (h:Value) (T:TypeId) (esz:Nat) (cells:List AV):Abs where
 bs:=h.ownBlock.toList
 ok:=fun G w=>∃ m,cells.length=m*esz∧((h=.slice none 0 0∧m=0)∨∃ g o c cur,h=.slice (some ⟨g,o,none⟩) m c∧m≤c∧c≤maxLen∧w.heap[g]?=some (.cells cur T (0,0))∧o+c*esz≤cur.size ∧
  RepIL G cells ((cur.toList.drop o).take (m*esz)))
 keep:=by
  rintro G H w w' hG hb ⟨m,h1,h2⟩
  refine ⟨m,h1,?_⟩
  rcases h2 with h2|⟨g,o,c,cur,rfl,h3,h4,h5,h6,h7⟩
  ·exact .inl h2
  ·exact .inr ⟨g,o,c,cur,rfl,h3,h4,by rw [hb g (by simp [Value.ownBlock])];exact h5,h6,RepIL.mono hG cells h7⟩

abbrev HO (g o m c:Nat):Value:=.slice (some ⟨g,o,none⟩) m c

theorem slO_ho {g o m c:Nat} {t:TypeId} {esz:Nat} {cells:List AV} {G:IM} {w:World} (h:(slO (HO g o m c) t esz cells).ok G w):cells.length=m*esz∧m≤c∧c≤maxLen∧∃ cur,w.heap[g]?=some (.cells cur t (0,0))∧o+c*esz≤cur.size ∧
  RepIL G cells ((cur.toList.drop o).take (m*esz)):=by
 obtain ⟨m',h1,h2⟩:=h
 rcases h2 with ⟨h2,_⟩|⟨g',o',c',cur,h2,h3,h4,h5,h6,h7⟩
 ·cases h2
 ·simp only [HO,Value.slice.injEq,Option.some.injEq,Addr.mk.injEq,and_true] at h2
  obtain ⟨⟨rfl,rfl⟩,rfl,rfl⟩:=h2
  exact ⟨h1,h3,h4,cur,h5,h6,h7⟩

theorem reads_slO {g o m c:Nat} {t:TypeId} {esz:Nat} {cells:List AV} (j:Nat):Reads (slO (HO g o m c) t esz cells) g (o+j) (cells.drop j):=by
 rintro G w hok i x hx
 obtain ⟨h1,h2,h3,cur,h5,h6,h7⟩:=slO_ho hok
 rw [List.getElem?_drop] at hx
 obtain ⟨z,z1,z2,z3⟩:=h7.get _ x hx
 refine ⟨z,?_,z2,z3⟩
 rw [cell_of_row w g _ cur t (0,0) h5]
 have hlt:j+i<m*esz:=by
  rcases Nat.lt_or_ge (j+i) (m*esz) with h|h
  ·exact h
  ·rw [List.getElem?_eq_none (by omega)] at hx;cases hx
 rw [List.getElem?_take,if_pos hlt,List.getElem?_drop] at z1
 rw [Nat.add_assoc]
 simpa using z1

theorem writes_slO {g o m c:Nat} {t:TypeId} {esz:Nat} {cells:List AV} {j:Nat} {x:AV} (hj:j<cells.length):Writes (slO (HO g o m c) t esz cells) g (o+j) x (slO (HO g o m c) t esz (cells.set j x)):=by
 refine ⟨by simp [slO,Value.ownBlock],rfl,?_⟩
 rintro G w v hok hx hv
 obtain ⟨h1,h2,h3,cur,h5,h6,h7⟩:=slO_ho hok
 have hmc:m*esz≤c*esz:=Nat.mul_le_mul_right _ h2
 have hin:o+j<cur.size:=by omega
 refine ⟨by rw [cell_of_row w g _ cur t (0,0) h5];simp [hin],by simp [World.frozen?,h5],m,by simpa using h1,.inr ⟨g,o,c,cur.setIfInBounds (o+j) v,rfl,h2,h3,by rw [setCell_heap h5],by simpa using h6,?_⟩⟩
 refine RepIL.mk ?_ (fun i y hy=>?_)
 ·have:=h7.len
  simp only [List.length_take,List.length_drop,Array.length_toList,List.length_set,Array.size_setIfInBounds] at this ⊢
  exact this
 ·rw [List.getElem?_set] at hy
  have hil:i<m*esz:=by
   rcases Nat.lt_or_ge i cells.length with h|h
   ·omega
   ·split at hy
    ·rename_i e;omega
    ·rw [List.getElem?_eq_none h] at hy;cases hy
  rw [List.getElem?_take,if_pos hil,List.getElem?_drop,Array.toList_setIfInBounds,List.getElem?_set]
  by_cases hji:j=i
  ·subst hji
   rw [if_pos rfl,if_pos hj] at hy
   cases hy
   rw [if_pos rfl,if_pos (by simpa using hin)]
   exact ⟨v,rfl,hx,hv⟩
  ·rw [if_neg hji] at hy
   rw [if_neg (by omega)]
   obtain ⟨z,z1,z2,z3⟩:=h7.get i y hy
   rw [List.getElem?_take,if_pos hil,List.getElem?_drop] at z1
   exact ⟨z,z1,z2,z3⟩

theorem slO_shape {h:Value} {t:TypeId} {esz:Nat} {cells:List AV} {G:IM} {w:World} (hk:(slO h t esz cells).ok G w):(h=.slice none 0 0∧cells=[])∨∃ g o m c,h=HO g o m c∧cells.length=m*esz∧m≤c∧c≤maxLen:=by
 obtain ⟨m,h1,h2⟩:=hk
 rcases h2 with ⟨h2,rfl⟩|⟨g,o,c,cur,rfl,h3,h4,h5,h6,h7⟩
 ·exact .inl ⟨h2,List.eq_nil_of_length_eq_zero (by simpa using h1)⟩
 ·exact .inr ⟨g,o,m,c,rfl,h1,h3,h4⟩

theorem Le.retell (q:Nat) {A A':Abs} {s:List (Nat×AV)} {c cr:List Ch} (hp:nthA q c=some (A,cr)) (hbs:A'.bs=A.bs) (hok:∀ G w,A.ok G w→A'.ok G w):Le X n ⟨s,c⟩ ⟨s,.abs A'::cr⟩:=fun e a w r =>
 ⟨e,{ r with heap:=HeapOK.retell (r.heap.perm (nthA_perm hp)) (fun bs h=>by
  obtain ⟨rfl,h2⟩:=h
  exact ⟨hbs.symm,hok _ _ h2⟩) }⟩

theorem ownsRow_slO {G:IM} {base:Nat} {t:TypeId} {esz m:Nat} {v:Value} {xs:List Value} {cells:List AV} (h:w.ownsRow base t esz v m xs) (hr:RepIL G cells xs):(slO v t esz cells).ok G w:=by
 refine ⟨m,by rw [← hr.len];exact h.1,?_⟩
 rcases h.2 with ⟨h1,h2⟩|⟨g,cap,cur,h1,_,h3,h4,h5,h6,h7⟩
 ·exact .inl ⟨h1,h2⟩
 ·exact .inr ⟨g,0,cap,cur,h1,h4,h5,h3,by omega,by rw [List.drop_zero,h7];exact hr⟩

theorem O_loadO (q:Nat) {g o m cc:Nat} {tt:TypeId} {esz j:Nat} {cells:List AV} {t:TypeId} {by_:Nat} {z:List Value} {dd:TD} {x:Operand} {d:Nat} {av:AV} {ty:TypeId} {pos:String} {aft:Array Edge} {gd:Option (Nat×Bool)} {rest:List Oper} {s:List (Nat×AV)} {c cr:List Ch}
  (hj:cells[j]?=some av) (hg:guardA ops ⟨s,c⟩ ⟨some d,.load t x,ty,pos,aft,gd⟩=some true) (hx:opd s x=some (PT g (o+j))) (hp:nthA q c=some (slO (HO g o m cc) tt esz cells,cr)) (hT:T t=some ⟨1,by_,false,z,dd⟩) (hd:Nat.blt d n=true)
  (k:SymO X n ops rest ⟨(d,av)::s,c⟩ K):SymO X n ops (⟨some d,.load t x,ty,pos,aft,gd⟩::rest) ⟨s,c⟩ K :=
 O_loadP q (reads_slO j) hg hx hp hT (by show (cells.drop j).head?=some av;rw [List.head?_drop];exact hj) hd k

theorem O_appendO (q:Nat) {dst:Nat} {so_ xo:Operand} {t ty:TypeId} {pos:String} {aft:Array Edge} {rest:List Oper} {s:List (Nat×AV)} {c cr:List Ch} {h:Value} {el:Nat} {row:Nat→List AV} {cells:List AV} {x:AV} {by_:Nat} {sz0 b0:Nat} {ag0 ag1:Bool} {z0 z1:List Value} {d1:TD}
  (hTs:T t=some ⟨sz0,b0,ag0,z0,.slice el⟩) (hTe:T el=some ⟨1,by_,ag1,z1,d1⟩)
  (hso:opd s so_=some (.v h)) (hp:nthA q c=some (slO h el 1 cells,cr)) (hxo:opd s xo=some (.sl 1 1 row)) (hrow:row 0=[x])
  (hd:Nat.blt dst n=true) (hlen:(cells.length+1)*by_≤140737488355328) (hlen2:cells.length+1≤maxLen)
  (k:∀ v',(∃ g o m cc,v'=HO g o m cc)→SymO X n ops rest ⟨(dst,.v v')::s,.abs (slO v' el 1 (cells++[x]))::cr⟩ K) :
  SymO X n ops (⟨some dst,.call ⟨.builtin .append,#[so_,xo],#[t,t]⟩,ty,pos,aft,none⟩::rest) ⟨s,c⟩ K:=by
 intro e a w Q r hq
 obtain ⟨pi,z,i1,i2,i3,i4,i5,i6,i7⟩:=(X.ok _ _ hTe).info
 obtain ⟨dd,e1,_,e3⟩:=(X.ok _ _ hTs).desc
 simp only [TDOK] at e3
 subst e3
 have hso':=opd_sound r hso
 simp only [Rep] at hso'
 have hxo':=opd_sound r hxo
 simp only [Rep,RepI] at hxo'
 have hzs:z.cells.size=1:=by
  have:z.cells.toList.length=1:=by rw [i5];exact i7
  simpa using this
 obtain ⟨ax,cx,hx1,hx2,hx3⟩:=hxo'
 rcases hx3 with hx3|⟨bx,ox,rfl,hx3⟩
 ·cases hx3
 have hc0:=hx3 0 (by omega)
 rw [hrow,Nat.zero_mul,Nat.add_zero] at hc0
 obtain ⟨⟨u,hu1,hu2,hu3⟩,_⟩:=hc0
 have hcell:=r.im _ _ _ hu1
 have hnews:∀ (j:Nat) (u':Value),([u]:List Value)[j]?=some u'→w.cell? ((⟨bx,ox,none⟩:Addr).add j)=some u':=by
  intro j u' hj
  cases j with
  | zero=>simp at hj;subst hj;rw [add_addr];simpa using hcell
  | succ j=>simp at hj
 obtain ⟨hok,hgood,hnd⟩:=r.heap.nth hp
 have hperm:c.Perm ([slO h el 1 cells].map Ch.abs++cr):=by simpa using nthA_perm hp
 have hbl:∀ B:Abs,blocks [B]=B.bs:=fun B=>by simp [blocks]
 have fin:∀ (v':Value) (w':World),(Builtin.append_ #[t,t] ty #[h,.slice (some ⟨bx,ox,none⟩) 1 cx]).run P w=.ok v' w'→(slO v' el 1 (cells++[x])).ok e.G w'→(∃ g o m cc,v'=HO g o m cc) →
   (∀ b,b<w.heap.size→b∉(slO h el 1 cells).bs→w'.heap[b]?=w.heap[b]?)→(∀ b∈(slO v' el 1 (cells++[x])).bs,b<w'.heap.size∧(w.heap.size≤b∨b∈(slO h el 1 cells).bs)) →
   w'.os=w.os∧w'.tape=w.tape∧w'.output=w.output→w.heap.size≤w'.heap.size→wpList P ops Q (⟨some dst,.call ⟨.builtin .append,#[so_,xo],#[t,t]⟩,ty,pos,aft,none⟩::rest) a w:=by
  intro v' w' hrun0 hok' hsh hoth hbs' ho hsz
  unfold wpList
  rw [if_pos (by simp [Region.wanted])]
  refine .inl ?_
  unfold Oper.wp
  have hrun:(execOp a.eval ⟨some dst,.call ⟨.builtin .append,#[so_,xo],#[t,t]⟩,ty,pos,aft,none⟩).run P w=.ok (.value v') w':=by
   simp only [execOp,resolve,invoke,builtin,Sem.run_bind,Sem.run_pure,Result.andThen_ok,List.map_toArray,List.map_cons,List.map_nil,hso',hx1,hrun0]
  rw [hrun]
  have hfree:∀ b∈(slO v' el 1 (cells++[x])).bs,e.G.free b:=fun b hb=>by
   rcases (hbs' b hb).2 with h1|h1
   ·exact r.free h1
   ·exact (hgood b h1).2.2
  have r2:=r.swapAbs (st:=⟨s,c⟩) (As:=[slO h el 1 cells]) (As':=[slO v' el 1 (cells++[x])]) (G':=e.G) (w':=w') hperm (IM.le_refl _) ⟨?_,?_⟩ ⟨fun b o v h=>.inl h,fun b x h=>.inl h⟩ ⟨?_,?_,?_⟩ ?_ ho hsz ?_
  ·exact k v' hsh _ _ _ Q (r2.put (x:=.v v') (v:=v') hd (by simp only [Rep])) hq
  ·intro b o v hv
   have h1:=r.im b o v hv
   simp only [World.cell?] at h1 ⊢
   rw [hoth b (r.glt0 _ _ _ hv) (fun hin=>by rw [(hgood b hin).2.2.1 o] at hv;cases hv)]
   exact h1
  ·exact r.mzKeep (fun b hb hf=>hoth b hb (fun hin=>hf (hgood b hin).2.2))
  ·intro B hB
   simp only [List.mem_singleton] at hB
   subst hB;exact hok'
  ·rw [hbl]
   obtain ⟨g,o,m,cc,rfl⟩:=hsh
   simp [slO,Value.ownBlock]
  ·intro b hb
   rw [hbl] at hb
   exact ⟨(hbs' b hb).1,hfree b hb⟩
  ·intro b hb
   rw [hbl] at hb ⊢
   exact (hbs' b hb).2
  ·intro b hb hnin _
   rw [hbl] at hnin
   exact hoth b hb hnin
 have hone:∀ u'∈([u]:List Value),u'.oneCell'=true:=fun u' hu'=>by simp at hu';subst hu';exact hu3
 have hrep1:RepIL e.G [x] [u]:=by simp only [RepIL];exact ⟨u,[],rfl,hu2,hu3,rfl⟩
 rcases slO_shape hok with ⟨hh,hcs⟩|⟨g,o,m,cc,hh,k2,k3,k4⟩
 ·subst hh hcs
  have hown0:w.ownsRow 0 el 1 (.slice none 0 0) 0 []:=⟨rfl,.inl ⟨rfl,rfl⟩⟩
  obtain ⟨v',w',hr,q2,q3,q4⟩:=run_append_own (P:=P) w 0 t ty el pi z 1 by_ e1 i1 i4 i2 i3 hzs (by omega) (.slice none 0 0) 0 [] hown0 ⟨bx,ox,none⟩ 1 cx [u] rfl hnews hone (by simpa using hlen2) (by simpa using hlen) (Nat.zero_le _)
  have hsh:∃ g o m cc,v'=HO g o m cc:=by
   rcases q2.2 with ⟨_,h0⟩|⟨g,cap,cur,h1,_⟩
   ·omega
   ·exact ⟨g,0,_,cap,h1⟩
  refine fin v' w' hr (ownsRow_slO q2 (by simpa using hrep1)) hsh (fun b hb _=>q3.block b hb (by simp [Value.ownBlock])) (fun b hb=>?_) ⟨q3.os,q3.tape,q3.output⟩ q3.size
  have hb':v'.ownBlock=some b:=by simpa [slO] using hb
  refine ⟨(q2.lt b hb').2,.inl ?_⟩
  have:=append_block t ty el pi z e1 i1 i4 (.slice none 0 0) 0 [] (by rw [i2];exact hown0) ⟨bx,ox,none⟩ 1 cx [u] (by rw [i2];rfl) hnews hone (by simpa using hlen2) (by rw [i3];simpa using hlen) hr b hb'
  simpa [Value.ownBlock] using this
 ·subst hh
  obtain ⟨h1,h2,h3,cur,h5,h6,h7⟩:=slO_ho hok
  rw [Nat.mul_one] at h1 h6 h7
  by_cases hroom:m+1≤cc
  ·have hin:o+m<cur.size:=by omega
   have hcell2:w.cell? ⟨g,o+m,none⟩=some cur[o+m]:=by
    rw [cell_of_row w g _ cur el (0,0) h5];simp [hin]
   have hrun:=run_append_room_cells (P:=P) w t ty el pi e1 i1 g o m cc ⟨bx,ox,none⟩ 1 cx [u] (by rw [i2];rfl) hnews hone hroom
    (fun j hj=>by simp at hj;subst hj;rw [i2];simp only [Nat.mul_one,Nat.add_zero];rw [hcell2];rfl)
    (fun j hj=>by simp [World.frozen?,h5])
   rw [i2,Nat.mul_one] at hrun
   refine fin _ _ hrun ?_ ⟨g,o,m+1,cc,rfl⟩ ?_ ?_ ?_ ?_
   ·refine ⟨m+1,by simp [h1],.inr ⟨g,o,cc,cur.setIfInBounds (o+m) u,rfl,hroom,h3,?_,by simpa using h6,?_⟩⟩
    ·simp only [World.setCells];rw [setCell_heap h5]
    ·refine RepIL.mk ?_ (fun i y hy=>?_)
     ·simp only [List.length_take,List.length_drop,Array.length_toList,List.length_append,List.length_cons,List.length_nil,Array.size_setIfInBounds,h1,Nat.mul_one];omega
     ·rw [Nat.mul_one,List.getElem?_take,List.getElem?_drop,Array.toList_setIfInBounds,List.getElem?_set]
      have hil:i<m+1:=by
       rcases Nat.lt_or_ge i (m+1) with h|h
       ·exact h
       ·rw [List.getElem?_eq_none (by simp [h1];omega)] at hy;cases hy
      rw [if_pos hil]
      by_cases him:i=m
      ·subst him
       rw [List.getElem?_append_right (by omega),h1] at hy
       simp at hy
       subst hy
       rw [if_pos rfl,if_pos (by simpa using hin)]
       exact ⟨u,rfl,hu2,hu3⟩
      ·rw [List.getElem?_append_left (by omega)] at hy
       rw [if_neg (by omega)]
       obtain ⟨zz,z1,z2,z3⟩:=h7.get i y hy
       rw [List.getElem?_take,if_pos (by omega),List.getElem?_drop] at z1
       exact ⟨zz,z1,z2,z3⟩
   ·intro b hb hnin
    simp only [World.setCells]
    rw [setCell_other (fun he=>hnin (by subst he;simp [slO,Value.ownBlock]))]
   ·intro b hb
    have hb':b=g:=by simpa [slO,Value.ownBlock] using hb
    subst hb'
    refine ⟨?_,.inr (by simp [slO,Value.ownBlock])⟩
    simp only [World.setCells]
    rw [setCell_size]
    exact (hgood b (by simp [slO,Value.ownBlock])).1
   ·exact ⟨rfl,rfl,rfl⟩
   ·simp only [World.setCells];rw [setCell_size];exact Nat.le_refl _
  ·have holds:∀ j u',((cur.toList.drop o).take m)[j]?=some u'→w.cell? ((⟨g,o,none⟩:Addr).add j)=some u':=by
    intro j u' hj
    rw [add_addr,cell_of_row w g _ cur el (0,0) h5]
    have hjm:j<m:=by
     rcases Nat.lt_or_ge j m with h|h
     ·exact h
     ·rw [List.getElem?_take,if_neg (by omega)] at hj;cases hj
    rw [List.getElem?_take,if_pos hjm,List.getElem?_drop] at hj
    simpa using hj
   have hlm:((cur.toList.drop o).take m).length=m*1:=by
    have:=h7.len;omega
   obtain ⟨v',w',hrun,q2,q3⟩:=run_append_arg_grows (P:=P) w t ty el pi z 1 by_ e1 i1 i4 i2 i3 hzs (by omega) ⟨g,o,none⟩ m cc ((cur.toList.drop o).take m) hlm holds ⟨bx,ox,none⟩ 1 cx [u] rfl hnews (by omega) (by omega) (by rw [← h1];exact hlen)
   have hsh:∃ g o m cc,v'=HO g o m cc:=by
    rcases q2.2 with ⟨_,h0⟩|⟨g,cap,cur,h1,_⟩
    ·omega
    ·exact ⟨g,0,_,cap,h1⟩
   refine fin v' w' hrun (ownsRow_slO q2 (RepIL.app h7 hrep1)) hsh (fun b hb _=>q3.block b hb (by simp)) (fun b hb=>?_) ⟨q3.os,q3.tape,q3.output⟩ q3.size
   have hb':v'.ownBlock=some b:=by simpa [slO] using hb
   exact ⟨(q2.lt b hb').2,.inl (q2.lt b hb').1⟩
end
end Go.Sy

namespace Go.Sy
open Go.RowKit Go.MapKept

section
variable {P:Program} {T:Tab} {X:Ctx P T} {n:Nat} {e:Env} {st:St} {a:Act} {w:World} {ops:Array Oper} {K:St→Prop}

theorem Rel.allocAbs {s:List (Nat×AV)} {c:List Ch} (r:Rel X n e ⟨s,c⟩ a w) {A:Abs} {o:Obj} (hbs:A.bs=[w.heap.size]) (hok:A.ok e.G (w.alloc o)):Rel X n e ⟨s,.abs A::c⟩ a (w.alloc o):=by
 have hb:∀ b,b<w.heap.size→(w.alloc o).heap[b]?=w.heap[b]?:=fun b h=>Below.heap_alloc w o b h
 have hsz:(w.alloc o).heap.size=w.heap.size+1:=Array.size_push o
 have:=r.swapAbs (st:=⟨s,c⟩) (As:=[]) (As':=[A]) (c:=c) (G':=e.G) (w':=w.alloc o) (List.Perm.refl _) (IM.le_refl _) ⟨?_,?_⟩ ⟨fun b o v h=>.inl h,fun b x h=>.inl h⟩ ⟨?_,?_,?_⟩ ?_ ⟨rfl,rfl,rfl⟩ (by omega) (fun k hk _ _=>hb k hk)
 ·simpa using this
 ·intro b o' v hv
  have h1:=r.im b o' v hv
  simp only [World.cell?] at h1 ⊢
  rw [hb b (r.glt0 _ _ _ hv)];exact h1
 ·exact r.mzKeep (fun b h _=>hb b h)
 ·intro B hB;simp only [List.mem_singleton] at hB;subst hB;exact hok
 ·simp [blocks,hbs]
 ·intro b hbb
  have:b=w.heap.size:=by simpa [blocks,hbs] using hbb
  subst this
  exact ⟨by omega,r.free (Nat.le_refl _)⟩
 ·intro b hbb
  have:b=w.heap.size:=by simpa [blocks,hbs] using hbb
  subst this;exact .inl (Nat.le_refl _)

structure Key (P:Program) (kt:TypeId) (α:Type) where
 kv:α→Value
 d:TypeDesc
 hd:P.underlying kt=some d
 ik:∀ a,IsKey d (kv a)
 inj:∀ a b,kv a=kv b→a=b

def intKey {P:Program} {kt:TypeId} (h:P.underlying kt=some (.int .i64)):Key P kt Int:=⟨fun i=>.int .i64 i,_,h,fun _=>rfl,fun a b h=>by cases h;rfl⟩
def strKey {P:Program} {kt:TypeId} (h:P.underlying kt=some .string):Key P kt (List UInt8):=⟨fun l=>S l,_,h,fun _=>trivial,fun a b h=>by
 simp only [S,Value.string.injEq,ByteArray.mk.injEq] at h
 exact (List.toArray_inj h)⟩

def mapA {α:Type} (kv:α→Value) (mo:Option Nat) (es:List (α×AV)):Abs where
 bs:=mo.toList
 ok:=fun G w=>match mo with
  | none=>es=[]
  | some b=>∃ arr cl,w.heap[b]?=some (.map arr cl)∧arr.toList.map (·.key)=es.map (fun q=>kv q.1)∧RepIT G (es.map (·.2)) (arr.toList.map (·.val))∧(arr.toList.map (·.born)).Nodup∧∀ x∈arr.toList,x.born<cl
 keep:=by
  rintro G H w w' hG hb hok
  cases mo with
  | none=>exact hok
  | some b =>
   obtain ⟨arr,cl,h1,h2,h3,h4⟩:=hok
   exact ⟨arr,cl,by rw [hb b (by simp)];exact h1,h2,RepIT.mono hG _ h3,h4⟩

def lookE {α:Type} [DecidableEq α] (k:α):List (α×AV)→Option AV
 | []=>none
 | (j,x)::r=>if j=k then some x else lookE k r
def updE {α:Type} [DecidableEq α] (k:α) (x:AV):List (α×AV)→List (α×AV)
 | []=>[(k,x)]
 | (j,y)::r=>if j=k then (j,x)::r else (j,y)::updE k x r

theorem updE_new {α:Type} [DecidableEq α] {k:α} {x:AV}:∀ {es:List (α×AV)},lookE k es=none→updE k x es=es++[(k,x)]
 | [],_=>rfl
 | (j,y)::r,h=>by
  simp only [lookE] at h
  split at h
  ·cases h
  ·rename_i hj
   simp only [updE,if_neg hj,updE_new h,List.cons_append]

theorem find_map {α:Type} [DecidableEq α] {kt:TypeId} (K:Key P kt α) (G:IM) (k:α):∀ (arr:List MapEntry) (es:List (α×AV)) (i:Nat),arr.map (·.key)=es.map (fun q=>K.kv q.1)→RepIT G (es.map (·.2)) (arr.map (·.val)) →
  (Instr.findNow K.d (K.kv k) arr i=some none∧lookE k es=none) ∨
  (∃ j e x,Instr.findNow K.d (K.kv k) arr i=some (some (i+j,e.val))∧arr[j]?=some e∧e.key=K.kv k∧lookE k es=some x∧RepI G x e.val ∧
   ∀ y,(updE k y es).map (fun q=>K.kv q.1)=es.map (fun q=>K.kv q.1)∧(updE k y es).map (·.2)=(es.map (·.2)).set j y)
 | [],[],i,_,_=>.inl ⟨rfl,rfl⟩
 | [],_::_,i,h,_=>by simp at h
 | _::_,[],i,h,_=>by simp at h
 | e::arr,(j,x)::es,i,h,hr=>by
  simp only [List.map_cons,List.cons.injEq] at h hr
  simp only [RepIT] at hr
  obtain ⟨z,zs,⟨rfl,rfl⟩,hr1,hr2⟩:=hr
  obtain ⟨b,hb,hiff⟩:=sameNow_of_keys (K.ik k) (h.1▸K.ik j)
  cases b with
  | true =>
   have hkj:K.kv k=e.key:=hiff.1 rfl
   have:j=k:=K.inj _ _ (by rw [← h.1,hkj])
   subst this
   refine .inr ⟨0,e,x,by simp [Instr.findNow,hb],rfl,hkj.symm,by simp [lookE],hr1,fun y=>?_⟩
   simp [updE]
  | false =>
   have hkj:K.kv k≠e.key:=fun hh=>by have:=hiff.2 hh;cases this
   have hne:j≠k:=fun hh=>hkj (by rw [h.1,hh])
   rcases find_map K G k arr es (i+1) h.2 hr2 with ⟨h1,h2⟩|⟨q,e',x',h1,h2,h3,h4,h5,h6⟩
   ·exact .inl ⟨by simp [Instr.findNow,hb,h1],by simp [lookE,hne,h2]⟩
   ·refine .inr ⟨q+1,e',x',by simp [Instr.findNow,hb,h1];omega,by simpa using h2,h3,by simp [lookE,hne,h4],h5,fun y=>?_⟩
    obtain ⟨g1,g2⟩:=h6 y
    simp [updE,hne,g1,g2]

def lookAV (commaOk:Bool) (o:Option AV) (z:AV):AV:=bif commaOk then .tup [o.getD z,B o.isSome] else o.getD z

theorem X_look (q:Nat) {α:Type} [DecidableEq α] {kt et mt:TypeId} (K:Key P kt α) {p:Pl} {mo:Option Nat} {es:List (α×AV)} {m x:Operand} {d:Option Nat} {k:α} {zv:Value} {z:AV} {commaOk:Bool} {pi:TypeInfo} {ty:TypeId} {pos:String} {aft:Array Edge} {gd:Option (Nat×Bool)} {j:Nat} {Si:List (Nat×AV)} {c cr:List Ch}
  (hm:P.underlying mt=some (.map kt et)) (hpi:P.info? et=some pi) (hz:pi.zero=some zv) (hzr:∀ e:Env,Rep e z zv) (hzi:z.imm=true)
  (hg:guardA ops ⟨Si,c⟩ ⟨d,.lookup mt m x commaOk,ty,pos,aft,gd⟩=some true) (hmo:opd Si m=some (.v (.map mo))) (hx:opd Si x=some (.v (K.kv k))) (hp:nthA q c=some (mapA K.kv mo es,cr)) (hd:dstOK n d=true) :
  StepX X n ops p Si c c j ⟨d,.lookup mt m x commaOk,ty,pos,aft,gd⟩ (lookAV commaOk (lookE k es) z) :=
 StepX.val hg hd (fun e a w S r r'=>by
  have h1:=opd_sound r' hmo
  have h2:=opd_sound r' hx
  simp only [Rep] at h1 h2
  obtain ⟨hok,_⟩:=r.heap.nth hp
  have hzero:(zeroValue et).run P w=.ok zv w:=by simp [zeroValue,typeInfo,hpi,hz]
  have key:∃ v,Rep e ((lookE k es).getD z) v∧(Instr.lookup mt (.map mo) (K.kv k) commaOk).run P w=.ok (if commaOk then .tuple #[v,.bool (lookE k es).isSome] else v) w:=by
   cases mo with
   | none =>
    have hes:es=[]:=hok
    subst hes
    have hf:(Instr.findKey kt (K.kv k) []).run P w=.ok none w:=run_findKey K.hd rfl
    refine ⟨zv,hzr e,?_⟩
    simp [Instr.lookup,run_underlying hm,run_checkKey K.hd (K.ik k),hf,hzero,lookE]
   | some b =>
    obtain ⟨arr,cl,g1,g2,g3,g4⟩:=hok
    rcases find_map K e.G k arr.toList es 0 g2 g3 with ⟨f1,f2⟩|⟨jj,en,xx,f1,f2,f3,f4,f5,_⟩
    ·have hf:=run_findKey (w:=w) K.hd f1
     refine ⟨zv,by rw [f2];exact hzr e,?_⟩
     simp [Instr.lookup,run_underlying hm,MapKept.run_getObj_map g1,run_checkKey K.hd (K.ik k),hf,hzero,f2]
    ·have hf:=run_findKey (w:=w) K.hd f1
     refine ⟨en.val,by rw [f4];exact RepI.toRep xx f5,?_⟩
     simp [Instr.lookup,run_underlying hm,MapKept.run_getObj_map g1,run_checkKey K.hd (K.ik k),hf,f4]
  obtain ⟨v,k1,k2⟩:=key
  refine ⟨if commaOk then .tuple #[v,.bool (lookE k es).isSome] else v,w,e,by simp only [execOp,h1,h2,Sem.run_bind,k2,Result.andThen_ok,Sem.run_pure],r,?_⟩
  cases commaOk with
  | false=>simpa [lookAV] using k1
  | true=>simp only [lookAV,cond_true,if_true,Rep,RepT];exact ⟨_,rfl,_,_,rfl,k1,_,_,rfl,rfl,rfl⟩)

theorem map_modify_key {arr:Array MapEntry} {i:Nat} {f:MapEntry→MapEntry} {en:MapEntry} (hi:arr[i]?=some en) (hk:(f en).key=en.key):(arr.modify i f).toList.map (·.key)=arr.toList.map (·.key) :=
 modify_keys i f (fun e he=>by rw [hi] at he;cases he;exact hk)

theorem map_modify_val {arr:Array MapEntry} {i:Nat} {f:MapEntry→MapEntry} {en:MapEntry} (hi:arr[i]?=some en):(arr.modify i f).toList.map (·.val)=(arr.toList.map (·.val)).set i (f en).val:=by
 apply List.ext_getElem?
 intro j
 rw [List.getElem?_set]
 simp only [List.getElem?_map,Array.getElem?_toList,Array.getElem?_modify,List.length_map,Array.length_toList]
 obtain ⟨hlt,rfl⟩:=Array.getElem?_eq_some_iff.1 hi
 by_cases hij:i=j
 ·subst hij;simp [hlt]
 ·simp [hij]

theorem map_modify_born {arr:Array MapEntry} {i:Nat} {f:MapEntry→MapEntry} (hf:∀ e,(f e).born=e.born):(arr.modify i f).toList.map (·.born)=arr.toList.map (·.born):=by
 apply List.ext_getElem?
 intro j
 simp only [List.getElem?_map,Array.getElem?_toList,Array.getElem?_modify]
 by_cases hij:i=j
 ·subst hij
  cases arr[i]? with
  | none=>simp
  | some e=>simp [hf]
 ·simp [hij]

theorem repIT_set {G:IM}:∀ {xs:List AV} {vs:List Value} (j:Nat) {x:AV} {v:Value},RepIT G xs vs→RepI G x v→RepIT G (xs.set j x) (vs.set j v)
 | [],vs,j,x,v,h,hx=>by
  simp only [RepIT] at h;subst h;simp [RepIT]
 | y::xs,vs,j,x,v,h,hx=>by
  simp only [RepIT] at h
  obtain ⟨z,zs,rfl,h1,h2⟩:=h
  cases j with
  | zero=>simp only [List.set_cons_zero,RepIT];exact ⟨v,zs,rfl,hx,h2⟩
  | succ j=>simp only [List.set_cons_succ,RepIT];exact ⟨z,_,rfl,h1,repIT_set j h2 hx⟩

theorem X_upd (q:Nat) {α:Type} [DecidableEq α] {kt et mt:TypeId} (K:Key P kt α) {p:Pl} {b:Nat} {es:List (α×AV)} {m x y:Operand} {k:α} {av:AV} {ty:TypeId} {pos:String} {aft:Array Edge} {gd:Option (Nat×Bool)} {j:Nat} {Si:List (Nat×AV)} {c cr:List Ch}
  (hm:P.underlying mt=some (.map kt et)) (hsb:∀ k,Instr.sameBits 10000 (K.kv k) (K.kv k)=true)
  (hg:guardA ops ⟨Si,c⟩ ⟨none,.mapUpdate mt m x y,ty,pos,aft,gd⟩=some true) (hmo:opd Si m=some (.v (.map (some b)))) (hx:opd Si x=some (.v (K.kv k))) (hy:opd Si y=some av) (himm:av.imm=true) (hp:nthA q c=some (mapA K.kv (some b) es,cr)) :
  StepX X n ops p Si c (.abs (mapA K.kv (some b) (updE k av es))::cr) j ⟨none,.mapUpdate mt m x y,ty,pos,aft,gd⟩ .bad :=
 StepX.skip hg rfl (fun e a w S r r'=>by
  have h1:=opd_sound r' hmo
  have h2:=opd_sound r' hx
  have h3:=opd_sound r' hy
  simp only [Rep] at h1 h2
  obtain ⟨⟨arr,cl,g1,g2,g3,g4,g5⟩,_⟩:=r.heap.nth hp
  have hlt:b<w.heap.size:=(Array.getElem?_eq_some_iff.1 g1).1
  have fin:∀ (arr':Array MapEntry) (cl':Nat),(Instr.mapUpdate mt (.map (some b)) (K.kv k) (a.eval y)).run P w=.ok () { w with heap:=w.heap.setIfInBounds b (.map arr' cl') } →
    arr'.toList.map (·.key)=(updE k av es).map (fun q=>K.kv q.1)→RepIT e.G ((updE k av es).map (·.2)) (arr'.toList.map (·.val))→(arr'.toList.map (·.born)).Nodup→(∀ x∈arr'.toList,x.born<cl') →
    ∃ w' e',(execOp a.eval ⟨none,.mapUpdate mt m x y,ty,pos,aft,gd⟩).run P w=.ok .skip w'∧Rel X n e' ⟨S,.abs (mapA K.kv (some b) (updE k av es))::cr⟩ a w':=by
   intro arr' cl' hrun k1 k2 k3 k4
   refine ⟨{ w with heap:=w.heap.setIfInBounds b (.map arr' cl') },e,by simp only [execOp,h1,h2,Sem.run_bind,hrun,Result.andThen_ok,Sem.run_pure],r.absTurn (st:=⟨S,c⟩) hp rfl ⟨arr',cl',by simp [hlt],k1,k2,k3,k4⟩ (fun b' hb'=>?_) ⟨rfl,rfl,rfl⟩ (by simp)⟩
   have hne:b≠b':=fun hh=>hb' (by subst hh;simp [mapA])
   simp [hne]
  rcases find_map K e.G k arr.toList es 0 g2 g3 with ⟨f1,f2⟩|⟨jj,en,xx,f1,f2,f3,f4,f5,f6⟩
  ·have hf:=run_findKey (w:=w) K.hd f1
   refine fin (arr.push ⟨K.kv k,a.eval y,cl⟩) (cl+1) ?_ ?_ ?_ ?_ ?_
   ·simp [Instr.mapUpdate,run_underlying hm,MapKept.run_getObj_map g1,run_checkKey K.hd (K.ik k),hf,MapKept.run_setObj_map _ g1]
   ·rw [updE_new f2];simp [g2]
   ·rw [updE_new f2]
    simp only [Array.toList_push,List.map_append,List.map_cons,List.map_nil]
    exact RepIT.app g3 (by simp only [RepIT];exact ⟨_,[],rfl,Rep.toI av himm h3,rfl⟩)
   ·simp only [Array.toList_push,List.map_append,List.map_cons,List.map_nil]
    refine List.nodup_append.2 ⟨g4,by simp,?_⟩
    intro u hu v hv
    simp only [List.mem_singleton] at hv
    subst hv
    obtain ⟨xx,hxx,rfl⟩:=List.mem_map.1 hu
    exact Nat.ne_of_lt (g5 xx hxx)
   ·intro xx hxx
    simp only [Array.toList_push,List.mem_append,List.mem_singleton] at hxx
    rcases hxx with hxx|rfl
    ·exact Nat.lt_succ_of_lt (g5 xx hxx)
    ·exact Nat.lt_succ_self _
  ·rw [Nat.zero_add] at f1
   have hf:=run_findKey (w:=w) K.hd f1
   have f2':arr[jj]?=some en:=by simpa using f2
   obtain ⟨u1,u2⟩:=f6 av
   refine fin (arr.modify jj fun e=>{ e with key:=K.kv k,val:=a.eval y }) cl ?_ ?_ ?_ ?_ ?_
   ·have hks:(Instr.keyThatStays (K.kv k) (K.kv k)).run P w=.ok (K.kv k) w:=by simp [Instr.keyThatStays,hsb k]
    simp [Instr.mapUpdate,run_underlying hm,MapKept.run_getObj_map g1,run_checkKey K.hd (K.ik k),hf,f2',f3,hks,MapKept.run_setObj_map _ g1]
   ·rw [u1,← g2];exact map_modify_key f2' f3.symm
   ·rw [u2,map_modify_val f2']
    exact repIT_set jj g3 (Rep.toI av himm h3)
   ·rw [map_modify_born (f:=fun e=>{ e with key:=K.kv k,val:=a.eval y }) (fun e=>rfl)];exact g4
   ·intro xx hxx
    have:xx.born∈(arr.modify jj fun e=>{ e with key:=K.kv k,val:=a.eval y }).toList.map (·.born):=List.mem_map.2 ⟨xx,hxx,rfl⟩
    rw [map_modify_born (f:=fun e=>{ e with key:=K.kv k,val:=a.eval y }) (fun e=>rfl)] at this
    obtain ⟨y',hy',e'⟩:=List.mem_map.1 this
    rw [← e'];exact g5 y' hy')

theorem O_makeMap {α:Type} (kv:α→Value) {mt:TypeId} {dst:Nat} {ty:TypeId} {pos:String} {aft:Array Edge} {rest:List Oper} {s:List (Nat×AV)} {c:List Ch} (hd:Nat.blt dst n=true)
  (k:∀ b,SymO X n ops rest ⟨(dst,.v (.map (some b)))::s,.abs (mapA kv (some b) [])::c⟩ K):SymO X n ops (⟨some dst,.makeMap mt none,ty,pos,aft,none⟩::rest) ⟨s,c⟩ K:=by
 intro e a w Q r hq
 unfold wpList
 rw [if_pos (by simp [Region.wanted])]
 refine .inl ?_
 unfold Oper.wp
 have hrun:(execOp a.eval ⟨some dst,.makeMap mt none,ty,pos,aft,none⟩).run P w=.ok (.value (.map (some w.heap.size))) (w.alloc (.map #[] 0)):=rfl
 rw [hrun]
 have r2:=r.allocAbs (A:=mapA kv (some w.heap.size) []) (o:=.map #[] 0) rfl ⟨#[],0,(MapKept.heap_alloc w _).1,rfl,by simp [RepIT],by simp,by simp⟩
 exact k w.heap.size _ _ _ Q (r2.put (x:=.v (.map (some w.heap.size))) hd (by simp only [Rep])) hq

def eqB (op:BinOp) (b:Bool):Bool:=match op with|.eql=>b|_=>!b
theorem X_eq {p:Pl} {t:TypeId} {x y:Operand} {u v:Value} {b:Bool} {op:BinOp} {d:Option Nat} {uy ty:TypeId} {pos:String} {aft:Array Edge} {gd:Option (Nat×Bool)} {j:Nat} {Si:List (Nat×AV)} {c:List Ch}
  (hop:op=.eql∨op=.neq) (hu:∀ cs,u≠.agg cs) (hun:u≠.nilIface)
  (hb:∀ e a w S,Rel X n e ⟨S,c⟩ a w→(Op.equal t u v).run P w=.ok b w)
  (hbin:∀ w,(binOp op t u v).run P w=((Op.equal t u v).run P w).andThen fun b w=>.ok (.bool (eqB op b)) w)
  (hg:guardA ops ⟨Si,c⟩ ⟨d,.binOp op t x y uy,ty,pos,aft,gd⟩=some true) (hx:opd Si x=some (.v u)) (hy:opd Si y=some (.v v)) (hd:dstOK n d=true) :
  StepX X n ops p Si c c j ⟨d,.binOp op t x y uy,ty,pos,aft,gd⟩ (B (eqB op b)) :=
 StepX.val hg hd (fun e a w S r r'=>by
  have h1:=opd_sound r' hx
  have h2:=opd_sound r' hy
  simp only [Rep] at h1 h2
  have hgd:(eqGuard op t x y u v).run P w=.ok () w:=by
   unfold eqGuard
   rcases hop with rfl|rfl
   ·cases u<;>cases v<;>first|rfl|(exact absurd rfl (hu _))|(exact absurd rfl hun)
   ·cases u<;>cases v<;>first|rfl|(exact absurd rfl (hu _))|(exact absurd rfl hun)
  have hbb:=hb e a w S r
  refine ⟨.bool (eqB op b),w,e,?_,r,by simp [Rep]⟩
  simp only [execOp,h1,h2,Sem.run_bind,hgd,Result.andThen_ok,hbin,hbb,Sem.run_pure])

theorem run_equalIn_ptr0 {t el:TypeId} (h:P.underlying t=some (.pointer el)) (po:Option Addr) (w:World) (d:Nat):(Op.equalIn (d+1) t (.pointer po) (.pointer none)).run P w=.ok po.isNone w:=by
 cases po<;>simp [Op.equalIn,run_underlying h]
theorem run_equal_ptr0 {t el:TypeId} (h:P.underlying t=some (.pointer el)) (po:Option Addr) (w:World):(Op.equal t (.pointer po) (.pointer none)).run P w=.ok po.isNone w:=run_equalIn_ptr0 h po w 9999

theorem binOp_eq_ptr {t:TypeId} {m:Option Addr} {v:Value} (w:World):(binOp .eql t (.pointer m) v).run P w=((Op.equal t (.pointer m) v).run P w).andThen fun b w=>.ok (.bool (eqB .eql b)) w:=by
 simp [binOp,Sem.run_bind,eqB]
theorem binOp_neq_ptr {t:TypeId} {m:Option Addr} {v:Value} (w:World):(binOp .neq t (.pointer m) v).run P w=((Op.equal t (.pointer m) v).run P w).andThen fun b w=>.ok (.bool (eqB .neq b)) w:=by
 simp [binOp,Sem.run_bind,eqB]

theorem X_ptrnil {p:Pl} {t el:TypeId} {x:Operand} {po:Option Addr} {d:Option Nat} {uy ty:TypeId} {pos:String} {aft:Array Edge} {gd:Option (Nat×Bool)} {j:Nat} {Si:List (Nat×AV)} {c:List Ch} (hm:P.underlying t=some (.pointer el))
  (hg:guardA ops ⟨Si,c⟩ ⟨d,.binOp .eql t x (.const (.pointer none)) uy,ty,pos,aft,gd⟩=some true) (hx:opd Si x=some (.v (.pointer po))) (hd:dstOK n d=true) :
  StepX X n ops p Si c c j ⟨d,.binOp .eql t x (.const (.pointer none)) uy,ty,pos,aft,gd⟩ (B po.isNone) :=
 X_eq (op:=.eql) (u:=.pointer po) (v:=.pointer none) (.inl rfl) (by intro cs h;cases h) (by intro h;cases h) (fun e a w S r=>run_equal_ptr0 hm po w) (fun w=>binOp_eq_ptr w) hg hx rfl hd

theorem Le.absPerm {As As':List Abs} {s:List (Nat×AV)} {c cr:List Ch} (hp:c.Perm (As.map Ch.abs++cr)) (hbs:(blocks As').Perm (blocks As)) (hok:∀ G w,(∀ A∈As,A.ok G w)→∀ A∈As',A.ok G w):Le X n ⟨s,c⟩ ⟨s,As'.map Ch.abs++cr⟩:=fun e a w r=>by
 have hh:=(r.heap.perm hp).absOK
 refine ⟨e,r.swapAbs (st:=⟨s,c⟩) (As':=As') (G':=e.G) (w':=w) hp (IM.le_refl _) ⟨r.im,r.mz⟩ ⟨fun b o v h=>.inl h,fun b x h=>.inl h⟩ ⟨hok _ _ hh.1.1,hbs.nodup_iff.2 hh.1.2.1,fun b hb=>hh.1.2.2 b (hbs.mem_iff.1 hb)⟩ (fun b hb=>.inr (hbs.mem_iff.1 hb)) ⟨rfl,rfl,rfl⟩ (Nat.le_refl _) (fun _ _ _ _=>rfl)⟩

theorem C_know {Q:Exit→St→Prop} {cd:Code} {s:List (Nat×AV)} {c cr:List Ch} (q:Nat) {A:Abs} (φ:Prop) (hp:nthA q c=some (A,cr)) (hφ:∀ G w,A.ok G w→A.bs.Nodup→φ) (k:φ→SymC X n cd ⟨s,c⟩ Q):SymC X n cd ⟨s,c⟩ Q:=fun e a w r=>by
 obtain ⟨h1,_,h2⟩:=r.heap.nth hp
 exact k (hφ _ _ h1 h2) e a w r
end
end Go.Sy

namespace Go.Sy
open Go.RowKit

section
variable {P:Program} {T:Tab} {X:Ctx P T} {n:Nat} {e:Env} {st:St} {a:Act} {w:World} {ops:Array Oper} {K:St→Prop}

end
end Go.Sy

namespace Go.Sy
open Go.RowKit

section
variable {P:Program} {T:Tab} {X:Ctx P T} {n:Nat} {e:Env} {st:St} {a:Act} {w:World} {ops:Array Oper} {K:St→Prop}

theorem SXr (x:AV) (ph0:Nat) {p:Pl} {base:List (Nat×AV)} {C:Nat→List Ch} {o:Oper} {rest:List Oper} {done:Done} (hc:p.creB done.length x=true) (hE:p.E.contains done.length=false) (hlo:Nat.beq (p.lo done.length) ph0=true) (hhi:Nat.beq (p.hi done.length) ph0=true)
  (h:StepX X n ops p (availX p done.length done o.after.toList base) (C ph0) (C ph0) done.length o x) (k:normG (done++[(o.dst,x)]) fun done=>SymX X n ops p base C K rest done):SymX X n ops p base C K (o::rest) done :=
 SX x hc (fun ph h1 h2=>by
  have e1:=Nat.eq_of_beq_eq_true hlo
  have e2:=Nat.eq_of_beq_eq_true hhi
  obtain rfl:ph=ph0:=by omega
  rw [if_neg (not_mem_of_contains (by rw [hE];rfl))]
  exact h) k
theorem SXw (x:AV) (ph0:Nat) {p:Pl} {base:List (Nat×AV)} {C:Nat→List Ch} {o:Oper} {rest:List Oper} {done:Done} (hc:p.creB done.length x=true) (hE:p.E.contains done.length=true) (hlo:Nat.beq (p.lo done.length) ph0=true) (hhi:Nat.beq (p.hi done.length) ph0=true)
  (h:StepX X n ops p (availX p done.length done o.after.toList base) (C ph0) (C (ph0+1)) done.length o x) (k:normG (done++[(o.dst,x)]) fun done=>SymX X n ops p base C K rest done):SymX X n ops p base C K (o::rest) done :=
 SX x hc (fun ph h1 h2=>by
  have e1:=Nat.eq_of_beq_eq_true hlo
  have e2:=Nat.eq_of_beq_eq_true hhi
  obtain rfl:ph=ph0:=by omega
  rw [if_pos (by simpa using hE)]
  exact h) k

end
end Go.Sy

namespace Go.Sy
open Go.RowKit

section
variable {P:Program} {T:Tab} {X:Ctx P T} {n:Nat} {e:Env} {st:St} {a:Act} {w:World} {ops:Array Oper} {K:St→Prop}

theorem Le.addAbs (A:Abs) {s:List (Nat×AV)} {c:List Ch} (hbs:A.bs=[]) (hok:∀ G w,A.ok G w):Le X n ⟨s,c⟩ ⟨s,.abs A::c⟩ :=
 Le.absPerm (As:=[]) (As':=[A]) (.refl _) (by simp [blocks,hbs]) (fun G w _ B hB=>by simp only [List.mem_singleton] at hB;subst hB;exact hok G w)

theorem D_callA (is:List Nat) {base:List (Nat×AV)} {c:List Ch} {done:Done} {f:FuncId} {dst:Nat} {args:Array Operand} {tys:Array TypeId} {ty:TypeId} {pos:String} {aft:Array Edge} {gd:Option (Nat×Bool)} {rest:List Oper} {avs:List AV} {x:AV} {cs:List Abs} {cr:List Ch}
  (hf:FnA P f avs cs (fun r cs'=>r=x∧cs'=cs)) (hg:guardA ops ⟨availL done aft.toList base,c⟩ ⟨some dst,.call ⟨.value (.func f),args,tys⟩,ty,pos,aft,gd⟩=some true) (ha:opds (availL done aft.toList base) args.toList=some avs) (himm:AV.imm.immL avs=true) (hp:pickA is c=some (cs,cr)) (hd:Nat.blt dst n=true)
  (k:SymD X n ops base c K rest (done++[(some dst,x)])) :
  SymD X n ops base c K (⟨some dst,.call ⟨.value (.func f),args,tys⟩,ty,pos,aft,gd⟩::rest) done:=by
 refine ⟨x,fun e a w S K' Q r hS hk=>?_,k⟩
 have r':Rel X n e ⟨availL done aft.toList base,c⟩ a w:=r.less hS (fun h=>h)
 rw [if_pos (guardA_sound r' hg)]
 refine .inl ?_
 unfold Oper.wp
 rw [run_call hf.1 a.eval rfl w,Oper.upon_enter]
 have h1:=RepT.toI avs himm (opds_sound r' ha)
 rw [map_eval]
 have hpp:=pickA_perm hp
 have hd2:=(r.heap.perm hpp).absOK
 refine (hf.2 e.G w _ ⟨r.im,r.mz⟩ h1 hd2.1).mono ?_
 rintro en w' ⟨rv,cv,cs',G',⟨rfl,rfl⟩,rfl,g1,g2,g3,g4,g5,g6,o1,o2,o3,o4,o5⟩
 have r2:=r.swapAbs (st:=⟨S,c⟩) hpp g2 g4 g3 g5 g6 ⟨o1,o2,o3⟩ o4 o5
 have r3:Rel X n ⟨G',e.μ,e.hd⟩ ⟨S,c⟩ a w':={ r2 with heap:=r2.heap.perm hpp.symm }
 exact hk _ _ _ (r3.put hd (RepI.toRep (e:=⟨G',e.μ,e.hd⟩) rv g1))

def writeAt (cur:Array Value):Nat→List Value→Array Value
 | _,[]=>cur
 | o,v::vs=>writeAt (cur.setIfInBounds o v) (o+1) vs
theorem writeAt_size:∀ (vs:List Value) (cur:Array Value) (o:Nat),(writeAt cur o vs).size=cur.size
 | [],cur,o=>rfl
 | v::vs,cur,o=>by simp only [writeAt];rw [writeAt_size vs];simp
theorem writeAt_get:∀ (vs:List Value) (cur:Array Value) (o j:Nat),o+vs.length≤cur.size→(writeAt cur o vs)[j]?=if o≤j∧j<o+vs.length then vs[j-o]? else cur[j]?
 | [],cur,o,j,_=>by simp only [writeAt,List.length_nil];rw [if_neg (by omega)]
 | v::vs,cur,o,j,h=>by
  simp only [List.length_cons] at h
  simp only [writeAt]
  rw [writeAt_get vs _ (o+1) j (by simp;omega)]
  simp only [List.length_cons]
  by_cases h1:j=o
  ·subst h1
   rw [if_neg (by omega),if_pos (by omega),Nat.sub_self,List.getElem?_cons_zero,Array.getElem?_setIfInBounds_self_of_lt (by omega)]
  ·by_cases h2:o+1≤j∧j<o+1+vs.length
   ·rw [if_pos h2,if_pos (by omega)]
    obtain ⟨q,rfl⟩:∃ q,j=o+1+q:=⟨j-(o+1),by omega⟩
    rw [show o+1+q-(o+1)=q by omega,show o+1+q-o=q+1 by omega]
    simp
   ·rw [if_neg h2,if_neg (by omega)]
    rw [Array.getElem?_setIfInBounds_ne (Ne.symm h1)]

theorem setCells_heap:∀ (vs:List Value) (b o:Nat) (w:World) (cur:Array Value) (t:TypeId) (fz:Nat×Nat),w.heap[b]?=some (.cells cur t fz)→(w.setCells b o vs).heap[b]?=some (.cells (writeAt cur o vs) t fz)
 | [],b,o,w,cur,t,fz,h=>h
 | v::vs,b,o,w,cur,t,fz,h=>by
  simp only [World.setCells,writeAt]
  exact setCells_heap vs b (o+1) _ _ t fz (setCell_heap h)
theorem setCells_other:∀ (vs:List Value) (b o k:Nat) (w:World),k≠b→(w.setCells b o vs).heap[k]?=w.heap[k]?
 | [],b,o,k,w,h=>rfl
 | v::vs,b,o,k,w,h=>by
  simp only [World.setCells]
  rw [setCells_other vs b (o+1) k _ h,setCell_other h]
theorem setCells_misc:∀ (vs:List Value) (b o:Nat) (w:World),(w.setCells b o vs).heap.size=w.heap.size∧(w.setCells b o vs).os=w.os∧(w.setCells b o vs).tape=w.tape∧(w.setCells b o vs).output=w.output
 | [],b,o,w=>⟨rfl,rfl,rfl,rfl⟩
 | v::vs,b,o,w=>by
  simp only [World.setCells]
  obtain ⟨h1,h2,h3,h4⟩:=setCells_misc vs b (o+1) (w.setCell ⟨b,o,none⟩ v)
  exact ⟨by rw [h1,setCell_size],h2,h3,h4⟩

end
end Go.Sy

namespace Go.Sy
open Go.RowKit

section
variable {P:Program} {T:Tab} {X:Ctx P T} {n:Nat} {e:Env} {st:St} {a:Act} {w:World} {ops:Array Oper} {K:St→Prop}

theorem C_joinE {α:Type} {Q:Exit→St→Prop} {c:Code} (S:α→St) (I:α→Prop) (h1:SymC X n c st (fun ex s=>match ex with
   | .normal=>∃ a,I a∧Le X n s (S a)
   | ex=>Q ex s)) (h2:∀ a s,I a→Le X n s (S a)→Q .normal s):SymC X n c st Q:=by
 refine h1.mono (fun ex s h=>?_)
 cases ex with
 | normal=>obtain ⟨a,ha,hl⟩:=h;exact h2 a s ha hl
 | exit id=>exact h
 | goto l=>exact h
 | ret=>exact h
 | panic ch=>exact h
 | outgrown=>exact h

theorem D_X {base:List (Nat×AV)} {c:List Ch} {o:Oper} {rest:List Oper} {done:Done} (x:AV) (h:StepX X n ops pl0 (availL done o.after.toList base) c c 0 o x) (k:SymD X n ops base c K rest (done++[(o.dst,x)])):SymD X n ops base c K (o::rest) done:=by
 refine ⟨x,fun e a w S K' Q r hS hk=>?_,k⟩
 exact h e a w S K' Q r hS (fun _ _ _ q hq=>by cases hq) (fun e' a' w' S' r' hu=>hk e' a' w' (r'.less (fun i y hy=>by
  cases hd:o.dst with
  | none =>
   rw [hd] at hy
   exact hu.2.1 i y (by rw [hd];intro h;cases h) hy (fun q hq=>by cases hq)
  | some d =>
   rw [hd] at hy
   simp only [putS] at hy
   rw [get_cons] at hy
   by_cases hdi:d=i
   ·rw [if_pos hdi] at hy;cases hy;subst hdi;exact hu.1 d hd
   ·rw [if_neg hdi] at hy
    exact hu.2.1 i y (by rw [hd];intro h;cases h;exact hdi rfl) hy (fun q hq=>by cases hq)) (fun h=>h)))

def nthN:Nat→List Ch→Option (Ch×List Ch)
 | 0,x::r=>some (x,r)
 | i+1,c::r=>match nthN i r with
  | some (A,r')=>some (A,c::r')
  | none=>none
 | _,[]=>none
def pickN:List Nat→List Ch→Option (List Ch×List Ch)
 | [],c=>some ([],c)
 | i::is,c=>match nthN i c with
  | some (A,c')=>(match pickN is c' with
   | some (As,r)=>some (A::As,r)
   | none=>none)
  | none=>none
theorem nthN_perm:∀ {i:Nat} {c r:List Ch} {A:Ch},nthN i c=some (A,r)→c.Perm (A::r)
 | 0,[],r,A,h=>by simp [nthN] at h
 | 0,x::c,r,A,h=>by
  simp only [nthN,Option.some.injEq,Prod.mk.injEq] at h
  obtain ⟨rfl,rfl⟩:=h
  exact .refl _
 | i+1,[],r,A,h=>by simp [nthN] at h
 | i+1,x::c,r,A,h=>by
  simp only [nthN] at h
  split at h
  ·rename_i A' r' hh
   simp only [Option.some.injEq,Prod.mk.injEq] at h
   obtain ⟨rfl,rfl⟩:=h
   exact ((nthN_perm hh).cons x).trans (.swap _ _ _)
  ·cases h
theorem pickN_perm:∀ {is:List Nat} {c r:List Ch} {As:List Ch},pickN is c=some (As,r)→c.Perm (As++r)
 | [],c,r,As,h=>by
  simp only [pickN,Option.some.injEq,Prod.mk.injEq] at h
  obtain ⟨rfl,rfl⟩:=h
  exact .refl _
 | i::is,c,r,As,h=>by
  simp only [pickN] at h
  split at h
  ·rename_i A c' hh
   split at h
   ·rename_i As' r' hh2
    simp only [Option.some.injEq,Prod.mk.injEq] at h
    obtain ⟨rfl,rfl⟩:=h
    exact (nthN_perm hh).trans ((pickN_perm hh2).cons A)
   ·cases h
  ·cases h
theorem Le.pick (is:List Nat) {s s2:List (Nat×AV)} {c c2 cr:List Ch} (hs:subS s2 s) (h:pickN is c=some (c2,cr)):Le X n ⟨s,c⟩ ⟨s2,c2⟩ :=
 Le.perm cr hs ((pickN_perm h).trans List.perm_append_comm)
theorem any_of_DU {base:List (Nat×AV)} {c:List Ch} {D:Done} {Q:QX X} {m f:Nat} (ht:tailB ops f m=true) (hD:D.length=m)
  (hstep:∀ i o,i<m→ops[i]?=some o→∃ x,D[i]?=some (o.dst,x)∧StepD X n ops (availL (D.take i) o.after.toList base) c o x)
  (hedge:∀ i o,ops[i]?=some o→∀ e∈o.after,Region.binds .any e=true→e.on<i)
  (hdist:∀ (i j:Nat) o o' d,i<m→j<m→ops[i]?=some o→ops[j]?=some o'→o.dst=some d→o'.dst=some d→i=j)
  (hbase:∀ (i:Nat) o d,i<m→ops[i]?=some o→o.dst=some d→get base d=none)
  (hfin:∀ e a w,Rel X n e ⟨finS base D,c⟩ a w→wpList P ops Q (ops.toList.drop m) a w) :
  ∀ (fuel:Nat) (listed:Array Bool) (a:Act) (w:World) (e:Env) (S:List (Nat×AV)),listed.size=ops.size→listed.toList.count false=fuel→Rel X n e ⟨S,c⟩ a w →
   (∀ j,m≤j→listed.getD j false=false)→ClosedL ops listed →
   (∀ k y,get base k=some y→get S k=some y)→(∀ (i:Nat) d x,listed.getD i false=true→D[i]?=some (some d,x)→get S d=some x) →
   wpAny P .any ops Q fuel listed a w:=by
 have ht':=ht
 unfold tailB at ht'
 simp only [Bool.and_eq_true,List.all_eq_true,List.mem_range,Array.length_toList] at ht'
 obtain ⟨⟨hm,hcov⟩,hch⟩:=ht'
 have hm':m<ops.size:=by have h:=hm;simp [Nat.blt] at h;omega
 have cnt:∀ (l:List Bool) (k:Nat),k≤l.length→(∀ j,j<l.length→(l[j]?=some true↔j<k))→l.count false+k=l.length:=by
  intro l
  induction l with
  | nil=>intro k hk _;simp at hk;simp [hk]
  | cons b l ih =>
   intro k hk h
   cases k with
   | zero =>
    have hb:b=false:=by
     have:=h 0 (by simp)
     cases b
     ·rfl
     ·simp at this
    subst hb
    have:=ih 0 (Nat.zero_le _) (fun j hj=>by have:=h (j+1) (by simpa using hj);simpa using this)
    simp at this ⊢;omega
   | succ k =>
    have hb:b=true:=by
     have:=h 0 (by simp)
     simpa using this
    subst hb
    have:=ih k (by simpa using hk) (fun j hj=>by have:=h (j+1) (by simpa using hj);simpa using this)
    simp at this ⊢;omega
 intro fuel
 induction fuel with
 | zero =>
  intro listed a w e S hsz hc r hge hcl hb hs
  exfalso
  have h1:=hge m (Nat.le_refl _)
  have hls:m<listed.size:=by omega
  have:false∈listed.toList:=by
   simp [hls] at h1
   exact List.mem_iff_getElem.2 ⟨m,by simpa using hls,by simpa using h1⟩
  have:=List.count_pos_iff.2 this
  omega
 | succ fuel ih =>
  intro listed a w e S hsz hc r hge hcl hb hs
  by_cases hall:∀ j,j<m→listed.getD j false=true
  · -- all that is drawn is done
   have hlt:∀ j,j<ops.size→(listed.getD j false=true↔j<m):=fun j hj=>by
    constructor
    ·intro h
     rcases Nat.lt_or_ge j m with h1|h1
     ·exact h1
     ·rw [hge j h1] at h;cases h
    ·exact hall j
   have hcount:listed.toList.count false+m=ops.size:=by
    have:=cnt listed.toList m (by simp;omega) (fun j hj=>by
     have hjl:j<listed.size:=by simpa using hj
     have:=hlt j (by omega)
     simp [hjl] at this ⊢
     exact this)
    simpa [hsz] using this
   refine any_tail ht hedge (fuel+1) m listed a w (by omega) (Nat.le_refl _) hsz hlt ?_
   refine hfin e a w (r.less (fun k y hk=>?_) id)
   rcases finS_get hk with ⟨i,hi⟩|h
   ·have hil:i<D.length:=by
     rcases Nat.lt_or_ge i D.length with h|h
     ·exact h
     ·rw [List.getElem?_eq_none h] at hi;cases hi
    exact hs i k y (hall i (by omega)) hi
   ·exact hb k y h
  -- what may come up now is drawn
  have hlow:∀ i∈Region.ready .any ops listed,i<m:=by
   intro i hi
   rw [mem_ready] at hi
   obtain ⟨h0,o,ho,hpre⟩:=hi
   rcases Nat.lt_or_ge i m with h|h
   ·exact h
   ·exfalso
    have hlt:i<ops.size:=(Array.getElem?_eq_some_iff.1 ho).1
    rcases Nat.eq_or_lt_of_le h with h|h
    ·subst h
     refine hall (fun j hj=>?_)
     have hc:=hcov j hj
     rw [List.contains_iff_mem] at hc
     refine ancs_listed hcl f m (fun q hq=>?_) j hc
     obtain ⟨o',ho',ed,he,hbb,rfl⟩:=mem_preds hq
     rw [ho] at ho';cases ho'
     exact hpre ed he hbb
    ·have hc:=hch (i-m-1) (by omega)
     rw [show m+1+(i-m-1)=i by omega,show m+(i-m-1)=i-1 by omega,List.contains_iff_mem] at hc
     obtain ⟨o',ho',ed,he,hbb,hon⟩:=mem_preds hc
     rw [ho] at ho';cases ho'
     have:=hpre ed he hbb
     rw [hon,hge (i-1) (by omega)] at this
     cases this
  refine ⟨fun hr=>?_,fun i hi=>?_⟩
  ·exfalso
   refine hall (fun j=>?_)
   induction j using Nat.strongRecOn with
   | ind j ihj =>
    intro hj
    cases hl:listed.getD j true with
    | true =>
     have:j<listed.size:=by omega
     simp [this] at hl ⊢
     exact hl
    | false =>
     exfalso
     have hmem:j∈Region.ready .any ops listed:=by
      rw [mem_ready]
      refine ⟨hl,ops[j],by simp [show j<ops.size by omega],fun e he hbb=>?_⟩
      have h1:=hedge j ops[j] (by simp [show j<ops.size by omega]) e he hbb
      exact ihj e.on h1 (by omega)
     rw [hr] at hmem;cases hmem
  ·have him:=hlow i hi
   rw [mem_ready] at hi
   obtain ⟨h0,o,ho,hpre⟩:=hi
   have hlt:i<ops.size:=(Array.getElem?_eq_some_iff.1 ho).1
   have hlf:listed.toList[i]?=some false:=by
    have:i<listed.size:=by omega
    simp [this] at h0 ⊢
    exact h0
   obtain ⟨x,hx,hst⟩:=hstep i o him ho
   unfold wpOp
   simp only [ho]
   refine hst e a w S _ Q r (fun k y hk=>?_) (fun e' a' w' r'=>?_)
   ·rcases availL_get hk with ⟨ed,h1,h2,h3⟩|h
    ·have h4:D[ed.on]?=some (some k,y):=by
      rw [List.getElem?_take] at h3
      split at h3
      ·exact h3
      ·cases h3
     exact hs ed.on k y (hpre ed (by simpa using h1) h2) h4
    ·exact hb k y h
   ·refine ih (listed.setIfInBounds i true) a' w' e' _ (by simpa using hsz) ?_ r' (fun j hj=>?_) (fun j oj hj hoj ed he hbb=>?_) (fun k y hk=>?_) (fun j d y hj hy=>?_)
    ·rw [Array.toList_setIfInBounds]
     have hlt':i<listed.toList.length:=by simpa using (by omega:i<listed.size)
     have hg:listed.toList[i]=false:=by
      have:=List.getElem?_eq_getElem hlt'
      rw [hlf] at this
      simpa using this.symm
     rw [List.count_set hlt',hg,hc]
     simp
    ·rw [getD_set_ne false (by omega:i≠j)]
     exact hge j hj
    ·by_cases hei:ed.on=i
     ·have hls:i<listed.size:=by omega
      rw [hei];simp [hls]
     ·rw [getD_set_ne false (Ne.symm hei)]
      by_cases hji:j=i
      ·subst hji
       rw [ho] at hoj;cases hoj
       exact hpre ed he hbb
      ·rw [getD_set_ne false (Ne.symm hji)] at hj
       exact hcl j oj hj hoj ed he hbb
    ·cases hd:o.dst with
     | none=>exact hb k y hk
     | some d =>
      simp only [putS]
      rw [get_cons]
      by_cases h:d=k
      ·subst h
       rw [hbase i o d him ho hd] at hk
       cases hk
      ·rw [if_neg h];exact hb k y hk
    ·by_cases hji:j=i
     ·subst hji
      rw [hx] at hy
      simp only [Option.some.injEq,Prod.mk.injEq] at hy
      rw [hy.1,hy.2]
      simp only [putS]
      rw [get_cons,if_pos rfl]
     ·rw [getD_set_ne false (Ne.symm hji)] at hj
      have hold:=hs j d y hj hy
      cases hd:o.dst with
      | none=>exact hold
      | some d' =>
       simp only [putS]
       rw [get_cons]
       by_cases h:d'=d
       ·exfalso
        subst h
        have hjl:j<m:=by
         rw [← hD]
         rcases Nat.lt_or_ge j D.length with h|h
         ·exact h
         ·rw [List.getElem?_eq_none h] at hy;cases hy
        obtain ⟨x',hx',_⟩:=hstep j ops[j] hjl (by simp [show j<ops.size by omega])
        rw [hx'] at hy
        simp only [Option.some.injEq,Prod.mk.injEq] at hy
        exact hji (hdist j i ops[j] o d' hjl him (by simp [show j<ops.size by omega]) ho hy.1 hd)
       ·rw [if_neg h];exact hold

def edgesB (ops:Array Oper):Bool:=(List.range ops.toList.length).all fun i=>(predsB ops i).all fun j=>Nat.blt j i
theorem C_drawU (f m:Nat) {id:Nat} {Q:Exit→St→Prop} {s base:List (Nat×AV)} {c:List Ch} (hb:eraseD (ops.toList.take m) s=some base) (hchk:chkD base 0 [] (ops.toList.take m)=true) (hed:edgesB ops=true)
  (ht:tailB ops f m=true) (h:SymD X n ops base c (fun s=>SymO X n ops (ops.toList.drop m) s (fun s=>Q .normal s)) (ops.toList.take m) []):SymC X n (.region id ops true) ⟨s,c⟩ Q:=by
 intro e a w r
 have hbs:∀ k y,get base k=some y→get s k=some y:=fun k y hk=>eraseD_get hb hk
 obtain ⟨D,_,hl,hK,hs⟩:=h.plan
 obtain ⟨c1,c2⟩:=chkD_spec hchk
 have hbel:Below w.heap.size w { w with drawn:=w.drawn+1 }:=⟨rfl,rfl,rfl,Nat.le_refl _,fun _ _=>rfl⟩
 have hm:m<ops.size:=by
  unfold tailB at ht
  simp only [Bool.and_eq_true] at ht
  have h1:=ht.1.1
  simp [Nat.blt] at h1;omega
 have htk:∀ (i:Nat) (o:Oper),i<m→ops[i]?=some o→(ops.toList.take m)[i]?=some o:=fun i o him ho=>by rw [List.getElem?_take,if_pos him];simpa using ho
 refine wp_region_any X.wide ?_
 refine any_of_DU (X:=X) (Q:=concX X n Q) (n:=n) (base:=base) (c:=c) (D:=D) (f:=f) (m:=m) ht (by simp at hl;omega) (fun i o him ho=>?_) (fun i o ho=>?_) (fun i j o o' d him hjm hi hj=>c2 i j o o' d (htk i o him hi) (htk j o' hjm hj)) (fun i o d him ho hd=>((c1 i o (htk i o him ho)).2 d hd).1)
  (fun e a w r=>hK e a w (concX X n Q) r fun e' st' _ _ hk hr=>⟨e',st',hr,hk⟩) _ _ a _ e base (by simp) (by simp) ((r.below hbel).less hbs (fun h=>h)) (fun j hj=>?_) (fun j o hj=>?_) (fun k y hk=>hk) (fun i d x hi=>?_)
 ·have:=hs i o (htk i o him ho)
  simpa using this
 ·intro ed he hb'
  have hi:i<ops.toList.length:=by
   have:=(Array.getElem?_eq_some_iff.1 ho).1
   simpa using this
  have h1:=List.all_eq_true.1 hed i (List.mem_range.2 hi)
  have h2:=List.all_eq_true.1 h1 ed.on (by
   unfold predsB
   rw [show ops.toList[i]?=some o by simpa using ho]
   exact List.mem_map.2 ⟨ed,List.mem_filter.2 ⟨by simpa using he,hb'⟩,rfl⟩)
  simp [Nat.blt] at h2;omega
 ·rcases Nat.lt_or_ge j ops.size with h|h
  ·simp [h]
  ·simp [Nat.not_lt.2 h]
 ·rcases Nat.lt_or_ge j ops.size with h|h
  ·simp [h] at hj
  ·simp [Nat.not_lt.2 h] at hj
 ·rcases Nat.lt_or_ge i ops.size with h|h
  ·simp [h] at hi
  ·simp [Nat.not_lt.2 h] at hi
end
end Go.Sy
