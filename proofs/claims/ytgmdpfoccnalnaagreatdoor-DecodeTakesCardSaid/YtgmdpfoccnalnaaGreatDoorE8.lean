/- The symbolic walk, part 75: a deferred call is laid; what follows is walked with it standing; what a type assertion finds. -/
import Derived.Test.YtgmdpfoccnalnaaGreatDoorE5
import Derived.Test.YtgmdpfoccnalnaaGreatDoorE6
import Derived.Recover
import Derived.Test.YtgmdpfoccnalnaaGreatDoorE7
import Derived.Test.YtgmdpfoccnalnaaGreatDoorE4
import Derived.Test.YtgmdpfoccnalnaaGreatDoorE3
import Derived.HandedShaped
import Derived.SizedLaws
import Derived.Lib.LaidU8T
import Derived.PinnedBridge
import Derived.Lay
import Derived.Shelf.Vars
import Derived.Test.YtgmdpfoccnalnaaGreatDoorRows
import Derived.Test.YtgmdpfoccnalnaaGreatDoorCards
import Derived.Test.YtgmdpfoccnalnaaGreatDoorTie
import Derived.JoinedOf
set_option linter.unusedSimpArgs false
set_option linter.unusedVariables false
namespace Go.Sy
open Go.RowKit
section
variable {P:Program} {T:Tab} {X:Ctx P T} {n:Nat} {e:Env} {st:St} {a:Act} {w:World} {ops:Array Oper} {K:St→Prop}

abbrev Ctx.later (X:Ctx P T) (d:Deferred) (pan:List PanicEntry→Act→World→Prop):Ctx P T:=⟨X.ok,X.wide,X.w0,X.G0,X.bs,X.μ0,pan,d::X.dfr⟩

theorem Rel.later (r:Rel X n e st a w) (d:Deferred) (pan:List PanicEntry→Act→World→Prop):Rel (X.later d pan) n e st { a with defers:=d::a.defers } w :=
 { r with defers:=by show d::a.defers=d::X.dfr;rw [r.defers],heap:=r.heap }

theorem run_deferV {x:Operand} {tys:Array TypeId} {ty:TypeId} {pos:String} {aft:Array Edge} {f:Fn} {vs:Array Value} (ρ:Operand→Value) (h:ρ x=.func f #[] vs) (w:World) :
  (execOp ρ ⟨none,.defer ⟨.value x,#[],tys⟩,ty,pos,aft,none⟩).run P w=.ok (.defer { target:=.fn f vs,args:=#[] }) w:=by
 simp [execOp,resolve,h,Deferred.ofValue]
theorem wp_deferF {id d:Nat} {g:FuncId} {caps:Array Operand} {cavs:List AV} {tys:Array TypeId} {ty ty2:TypeId} {pos pos2:String} {aft aft2:Array Edge} {Q:Exit→Act→World→Prop} (r:Rel X n e st a w)
  (ha:opds st.s caps.toList=some cavs) (himm:AV.imm.immL cavs=true) (hd:Nat.blt d n=true)
  (kk:∀ (vs:Array Value) (a':Act),RepIT e.G cavs vs.toList→(∀ pan,Rel (X.later { target:=.fn (.func g) vs,args:=#[] } pan) n e ⟨(d,.p (cloRP g cavs))::st.s,st.c⟩ a' w)→Q .normal a' w) :
  (Code.region id #[⟨some d,.makeFunc (.func g) #[] caps,ty,pos,aft,none⟩,⟨none,.defer ⟨.value (.tmp d),#[],tys⟩,ty2,pos2,aft2,none⟩] false).wp P Q a w:=by
 refine wp_region_lit (l:=[_,_]) ?_
 have h1:=RepT.toI cavs himm (opds_sound r ha)
 unfold wpList
 rw [if_pos (by simp [Region.wanted])]
 refine .inl ?_
 have hrun:(execOp a.eval ⟨some d,.makeFunc (.func g) #[] caps,ty,pos,aft,none⟩).run P w=.ok (.value (.func (.func g) #[] (caps.map a.eval))) w:=by
  simp [execOp,Instr.makeFunc]
 unfold Oper.wp
 rw [hrun]
 show wpList _ _ _ _ (a.put (some d) (.func (.func g) #[] (caps.map a.eval))) w
 have r2:Rel X n e ⟨(d,.p (cloRP g cavs))::st.s,st.c⟩ (a.put (some d) (.func (.func g) #[] (caps.map a.eval))) w:=r.put hd (by simp only [Rep];exact ⟨_,rfl,by rw [map_eval];exact h1⟩)
 have hev:(a.put (some d) (.func (.func g) #[] (caps.map a.eval))).eval (.tmp d)=.func (.func g) #[] (caps.map a.eval):=by
  have r3:Rel X n e ⟨(d,.v (.func (.func g) #[] (caps.map a.eval)))::st.s,st.c⟩ (a.put (some d) (.func (.func g) #[] (caps.map a.eval))) w:=r.put hd (by simp only [Rep])
  obtain ⟨v,h2,h3⟩:=r3.slots d (.v (.func (.func g) #[] (caps.map a.eval))) (by rw [get_cons,if_pos rfl])
  simp only [Rep] at h3
  subst h3
  simp [Act.eval,Array.getD_eq_getD_getElem?,h2]
 unfold wpList
 rw [if_pos (by simp [Region.wanted])]
 refine .inl ?_
 have hrun2:=run_deferV (P:=P) (x:=.tmp d) (tys:=tys) (ty:=ty2) (pos:=pos2) (aft:=aft2) _ hev w
 unfold Oper.wp
 rw [hrun2,Oper.upon_defer]
 exact wpList_nil (kk (caps.map a.eval) _ (by rw [map_eval];exact h1) (fun pan=>r2.later _ pan))

theorem AbsOK.tail {G:IM} {w:World} {A:Abs} {cs:List Abs} (h:AbsOK G w (A::cs)):AbsOK G w cs:=by
 obtain ⟨h1,h2,h3⟩:=h
 simp only [blocks,List.flatMap_cons] at h2 h3 ⊢
 exact ⟨fun B hB=>h1 B (List.mem_cons_of_mem _ hB),(List.nodup_append.1 h2).2.1,fun b hb=>h3 b (List.mem_append.2 (.inr hb))⟩
theorem TrA.frame {G G':IM} {w w':World} {A:Abs} {cs cs':List Abs} (h:TrA G w cs G' w' cs') (hA:AbsOK G w (A::cs)):TrA G w (A::cs) G' w' (A::cs'):=by
 obtain ⟨a1,a2,a3,a4,a5,a6,a7,a8,a9,a10⟩:=h
 obtain ⟨h1,h2,h3⟩:=hA
 have hbA:∀ b,b∈A.bs→b<w.heap.size∧G.free b∧b∉blocks cs:=fun b hb=>by
  simp only [blocks,List.flatMap_cons] at h2 h3
  have:=h3 b (List.mem_append.2 (.inl hb))
  exact ⟨this.1,this.2,fun hin=>(List.nodup_append.1 h2).2.2 b hb b hin rfl⟩
 have hnew:∀ b,b∈A.bs→w'.heap[b]?=w.heap[b]?:=fun b hb=>by
  obtain ⟨q1,q2,q3⟩:=hbA b hb
  exact a10 b q1 q3 (IM.free_still q2)
 refine ⟨a1,⟨fun b o v hv=>(a2.1 b o v hv).imp id (Or.imp id (fun h=>by simp only [blocks,List.flatMap_cons];exact List.mem_append.2 (.inr h))),fun b x hx=>(a2.2 b x hx).imp id (Or.imp id (fun h=>by simp only [blocks,List.flatMap_cons];exact List.mem_append.2 (.inr h)))⟩,a3,⟨fun B hB=>?_,?_,fun b hb=>?_⟩,fun b hb=>?_,a6,a7,a8,a9,fun k hk hn hs=>a10 k hk (fun h=>hn (by simp only [blocks,List.flatMap_cons];exact List.mem_append.2 (.inr h))) hs⟩
 ·rcases List.mem_cons.1 hB with rfl|hB
  ·exact B.keep a1 hnew (h1 B (by simp))
  ·exact a4.1 B hB
 ·simp only [blocks,List.flatMap_cons] at h2 ⊢
  refine List.nodup_append.2 ⟨(List.nodup_append.1 h2).1,a4.2.1,fun b hb b' hb' e=>?_⟩
  subst e
  obtain ⟨q1,q2,q3⟩:=hbA b hb
  rcases a5 b hb' with h|h
  ·omega
  ·exact q3 h
 ·simp only [blocks,List.flatMap_cons] at hb
  rcases List.mem_append.1 hb with hb|hb
  ·obtain ⟨q1,q2,q3⟩:=hbA b hb
   exact ⟨by omega,a2.free q1 q3 q2⟩
  ·exact a4.2.2 b hb
 ·simp only [blocks,List.flatMap_cons] at hb ⊢
  rcases List.mem_append.1 hb with hb|hb
  ·exact .inr (List.mem_append.2 (.inl hb))
  ·exact (a5 b hb).imp id (fun h=>List.mem_append.2 (.inr h))
theorem TrA.head {G G':IM} {w w':World} {A:Abs} {cs cs':List Abs} (h:TrA G w cs G' w' (A::cs')):TrA G w cs G' w' [A]:=by
 obtain ⟨a1,a2,a3,a4,a5,a6,a7,a8,a9,a10⟩:=h
 simp only [blocks,List.flatMap_cons] at a5
 obtain ⟨h1,h2,h3⟩:=a4
 simp only [blocks,List.flatMap_cons] at h2 h3
 refine ⟨a1,a2,a3,⟨fun B hB=>?_,?_,fun b hb=>?_⟩,fun b hb=>?_,a6,a7,a8,a9,a10⟩
 ·rw [List.mem_singleton] at hB;subst hB;exact h1 B (by simp)
 ·simp only [blocks,List.flatMap_cons,List.flatMap_nil,List.append_nil];exact (List.nodup_append.1 h2).1
 ·simp only [blocks,List.flatMap_cons,List.flatMap_nil,List.append_nil] at hb;exact h3 b (List.mem_append.2 (.inl hb))
 ·simp only [blocks,List.flatMap_cons,List.flatMap_nil,List.append_nil] at hb;exact a5 b (List.mem_append.2 (.inl hb))

theorem wpS_recover {id d1 d2:Nat} {tys:Array TypeId} {ty ty2:TypeId} {pos pos2:String} {aft aft2:Array Edge} {Q:Exit→Act→List Frame→World→Prop} {cs cs':List Frame} {v:Value}
  (hrec:recoverD cs=some (v,cs')∨(recoverD cs=none∧v=.nilIface∧cs'=cs)) (hd:d1<a.tmps.size) (h:Q .normal ((a.put (some d1) v).put (some d2) v) cs' w) :
  (Code.region id #[⟨some d1,.call ⟨.builtin .recover,#[],tys⟩,ty,pos,aft,none⟩,⟨some d2,.assign (.tmp d1),ty2,pos2,aft2,none⟩] false).wpS P Q a cs w:=by
 refine wpS_region ?_
 have hev:(a.put (some d1) v).eval (.tmp d1)=v:=by simp [Act.eval,Act.put,Array.getD_eq_getD_getElem?,hd]
 have h1:∀ ρ:Operand→Value,(execOp ρ ⟨some d1,.call ⟨.builtin .recover,#[],tys⟩,ty,pos,aft,none⟩).run P w=.ok .recover w:=fun ρ=>by simp [execOp,go_sem]
 have h2:(execOp (a.put (some d1) v).eval ⟨some d2,.assign (.tmp d1),ty2,pos2,aft2,none⟩).run P w=.ok (.value v) w:=by simp [execOp,hev]
 show wpOpsS P _ Q [0,1] a cs w
 unfold wpOpsS
 simp only [List.getElem?_toArray,List.getElem?_cons_zero,Region.wanted,if_true]
 rw [h1]
 rcases hrec with hr|⟨hr,rfl,rfl⟩
 ·simp only [hr]
  unfold wpOpsS
  simp only [List.getElem?_toArray,List.getElem?_cons_succ,List.getElem?_cons_zero,Region.wanted,if_true]
  rw [h2]
  simp only [Oper.upon_value]
  unfold wpOpsS
  exact h
 ·simp only [hr]
  unfold wpOpsS
  simp only [List.getElem?_toArray,List.getElem?_cons_succ,List.getElem?_cons_zero,Region.wanted,if_true]
  rw [h2]
  simp only [Oper.upon_value]
  unfold wpOpsS
  exact h

theorem X_assertOK {p:Pl} {t:TypeId} {dsc:TypeDesc} {x:Operand} {y:AV} {d:Option Nat} {xt ty:TypeId} {pos:String} {aft:Array Edge} {gd:Option (Nat×Bool)} {j:Nat} {Si:List (Nat×AV)} {c:List Ch}
  (hu:P.underlying t=some dsc) (hni:∀ ms,dsc≠.interface ms)
  (hg:guardA ops ⟨Si,c⟩ ⟨d,.typeAssert x xt t true,ty,pos,aft,gd⟩=some true) (hx:opd Si x=some (.ifc t y)) (hd:dstOK n d=true) :
  StepX X n ops p Si c c j ⟨d,.typeAssert x xt t true,ty,pos,aft,gd⟩ (.tup [y,B true]) :=
 StepX.val hg hd (fun e a w S r r'=>by
  have h1:=opd_sound r' hx
  simp only [Rep] at h1
  obtain ⟨v,hv,hy⟩:=h1
  refine ⟨.tuple #[v,.bool true],w,e,?_,r,by simp only [Rep,RepT];exact ⟨#[v,.bool true],rfl,v,_,rfl,hy,_,_,rfl,rfl,rfl⟩⟩
  have hun:(underlying t:Sem TypeDesc).run P w=.ok dsc w:=by simp [underlying,hu]
  simp only [execOp,hv,Instr.typeAssert,Sem.run_bind,hun,Result.andThen_ok]
  cases dsc<;>first|(simp;done)|exact absurd rfl (hni _))
end
end Go.Sy

set_option maxRecDepth 100000
namespace Go.Proofs
open Go.Sy Go.Lib

def zvA:List AV:=[I64 0,I64 0,.s [],NIL,NIL]
abbrev resC3 (b8 b9 b10:Nat) (c8:List AV) (c9 c10:Int):List Abs:=[boxA b8 26 c8,boxA b9 3 [I64 c9],boxA b10 35 [I64 c10]]

theorem clo_ret (b8 b9 b10:Nat) (w:World) :
  CallsD Tryz.prog 21 #[.pointer (some ⟨b8,0,none⟩),.pointer (some ⟨b9,0,none⟩),.pointer (some ⟨b10,0,none⟩)] .returning w fun en u' w'=>(∃ v,en=.returned v)∧u'=.returning∧w'=w:=by
 refine callsD_of_wpS Tryz.func21 rfl fun c₀ cs hu=>?_
 have hn:Tryz.f21.ntmps=20:=by kernel_rfl
 have hnil:∀ w:World,(binOp BinOp.eql 20 .nilIface .nilIface).run Tryz.prog w=.ok (.bool true) w:=fun _=>by kernel_rfl
 apply wpS_seq
 refine wpS_recover (v:=.nilIface) (.inr ⟨by simp [recoverD,hu],rfl,rfl⟩) (by rw [hn];simp) ?_
 rw [hn]
 show Code.wpS _ _ _ _ _ _
 apply wpS_seq
 apply wpS_seq
 apply wpS_region
 simp [wpOpsS,go_sem,Exit.thenS,hnil,Act.put,Act.eval]
 refine wpS_cond (t:=true) (by simp [Act.eval,Array.replicate]) ?_
 simp only [if_true]
 refine wpS_of_wp (wp_ret ?_)
 cases c₀
 simp_all [bodyPostS,results,Exit.thenS]

def P5c:Pl:=⟨[[],[],[1],[0],[0,3],[0,1,2,3,4]],[3,4,5],[],[]⟩
def C5c (b8 b9 b10:Nat) (c8:List AV) (c9 c10 e:Int) (l3 l4 l5:Bool):List Ch :=
 [.abs (boxA b8 26 (bif l3 then zvA else c8)),.abs (boxA b9 3 (bif l4 then [I64 0] else [I64 c9])),.abs (boxA b10 35 (bif l5 then [I64 e] else [I64 c10]))]
theorem clo_pan (b8 b9 b10:Nat) (x0 x1 x2 x3 x4:AV) (c9 c10 ef:Int) (G:IM) (w:World) (him:ImOK G w) (hcs:AbsOK G w (resC3 b8 b9 b10 [x0,x1,x2,x3,x4] c9 c10)) (v:Value) (hv:RepI G (errA ef) v) :
  CallsD Tryz.prog 21 #[.pointer (some ⟨b8,0,none⟩),.pointer (some ⟨b9,0,none⟩),.pointer (some ⟨b10,0,none⟩)] (.panicking [{ v:=v,recovered:=false }]) w fun en u' w'=>(∃ r,en=.returned r)∧u'=.panicking [{ v:=v,recovered:=true }] ∧
   ∃ G',TrA G w (resC3 b8 b9 b10 [x0,x1,x2,x3,x4] c9 c10) G' w' (resC3 b8 b9 b10 zvA 0 ef):=by
 refine callsD_of_wpS Tryz.func21 rfl fun c₀ cs hu=>?_
 have hn:Tryz.f21.ntmps=20:=by kernel_rfl
 apply wpS_seq
 refine wpS_recover (v:=v) (cs':={ c₀ with mode:=.panicking [{ v:=v,recovered:=true }] }::cs) (.inl (by simp [recoverD,hu])) (by rw [hn];simp) ?_
 rw [hn]
 show Code.wpS _ _ _ _ _ _
 refine wpS_of_wp ?_
 let X:Ctx Tryz.prog Tryz.tab:=⟨Tryz.tabOK,Tryz.wide_,w,G,blocks (resC3 b8 b9 b10 [x0,x1,x2,x3,x4] c9 c10),fun _=>0,fun _ _ _=>False,[]⟩
 let e:Env:=⟨G,fun _=>0,fun _=>undef⟩
 have hheap:HeapOK X e w ((resC3 b8 b9 b10 [x0,x1,x2,x3,x4] c9 c10).map Ch.abs):=by
  refine ⟨(resC3 b8 b9 b10 [x0,x1,x2,x3,x4] c9 c10).map (fun A=>(Ch.abs A,A.bs)),by simp [Function.comp_def],?_,by rw [flat_abs];exact hcs.2.1,?_⟩
  ·intro p hp
   obtain ⟨A,hA,rfl⟩:=List.mem_map.1 hp
   exact ⟨rfl,hcs.1 A hA⟩
  ·rw [flat_abs]
   intro b hb
   exact ⟨(hcs.2.2 b hb).1,.inr hb,(hcs.2.2 b hb).2⟩
 have r0:Rel X 20 e ⟨enumA 0 [PT b8 0,PT b9 0,PT b10 0],(resC3 b8 b9 b10 [x0,x1,x2,x3,x4] c9 c10).map Ch.abs⟩ { tmps:=#[.pointer (some ⟨b8,0,none⟩),.pointer (some ⟨b9,0,none⟩),.pointer (some ⟨b10,0,none⟩)]++Array.replicate (20-3) undef,defers:=[] } w :=
  Rel.enter (cargs:=[.pointer (some ⟨b8,0,none⟩),.pointer (some ⟨b9,0,none⟩),.pointer (some ⟨b10,0,none⟩)]) rfl rfl him (RepIT.toRep (e:=e) [PT b8 0,PT b9 0,PT b10 0] (by simp only [RepIT,RepI];exact ⟨_,_,rfl,rfl,_,_,rfl,rfl,_,_,rfl,rfl,rfl⟩)) (by simp) hheap rfl
 have hv':Rep e (errA ef) v:=RepI.toRep (e:=e) (errA ef) hv
 have r2:=(r0.put (d:=6) (x:=errA ef) (v:=v) rfl hv').put (d:=3) (x:=errA ef) (v:=v) rfl hv'
 refine Code.wp_mono (fun ex a' w' hc=>?_) ((?_:SymC X 20 _ _ (EndsX Tryz.tab #[] (fun r cs'=>r=.tup []∧cs'=resC3 b8 b9 b10 zvA 0 ef))) e _ w r2)
 ·have fin:∀ (e':Env) (st':St),Rel X 20 e' st' a' w'→(∃ r cs1 rest,resA Tryz.tab st' (#[]:Array ResultVar).toList=some r∧st'.c.Perm (cs1.map Ch.abs++rest)∧r.imm=true∧r=.tup []∧cs1=resC3 b8 b9 b10 zvA 0 ef) →
    a'.defers=[]∧∃ u',{ c₀ with mode:=.panicking [{ v:=v,recovered:=true }] }::cs={ c₀ with mode:=u' }::cs∧∃ v1,(results Tryz.f21 a'.tmps).run Tryz.prog w'=.ok v1 w'∧((∃ r,Ending.returned v1=.returned r)∧u'=.panicking [{ v:=v,recovered:=true }] ∧
   ∃ G',TrA G w (resC3 b8 b9 b10 [x0,x1,x2,x3,x4] c9 c10) G' w' (resC3 b8 b9 b10 zvA 0 ef)):=by
   rintro e' st' hr ⟨x,cs',rest,h1,hk,h2,h3,rfl⟩
   exact ⟨hr.defers,_,rfl,.tuple #[],results_none rfl _ _ _,⟨_,rfl⟩,rfl,e'.G,hr.trA hk rfl⟩
  cases ex with
  | normal=>obtain ⟨e',st',h1,h2⟩:=hc;exact fin e' st' h1 h2
  | ret=>obtain ⟨e',st',h1,h2⟩:=hc;exact fin e' st' h1 h2
  | exit id=>obtain ⟨e',st',h1,h2⟩:=hc;exact h2.elim
  | goto l=>obtain ⟨e',st',h1,h2⟩:=hc;exact h2.elim
  | panic ch=>exact hc.2.elim
  | outgrown=>exact hc.elim
 repeat (first|refine sc rfl ?_|refine so rfl ?_)
 refine O_Xd (X_ifcnil Tryz.underlying20 rfl rfl rfl) ?_
 repeat refine so rfl ?_
 refine C_false rfl rfl ?_
 repeat (first|refine sc rfl ?_|refine so rfl ?_)
 refine O_Xd (X_assertOK Tryz.underlying68 (fun ms h=>by cases h) rfl rfl rfl) ?_
 repeat (first|refine sc rfl ?_|refine so rfl ?_)
 refine C_le _ (Le.freezebox 4 rfl rfl rfl) ?_
 repeat refine sc rfl ?_
 refine C_false rfl rfl ?_
 repeat refine sc rfl ?_
 refine C_le _ (Le.sub (s2:=⟨[(0,PT b8 0),(1,PT b9 0),(2,PT b10 0),(4,.cp [I64 ef])],(resC3 b8 b9 b10 [x0,x1,x2,x3,x4] c9 c10).map Ch.abs⟩) [1000000,1000000,1000000] ⟨rfl,rfl,rfl,rfl,trivial⟩ rfl) ?_
 refine C_drawM P5c (fun L=>(C5c b8 b9 b10 [x0,x1,x2,x3,x4] c9 c10 ef (L 3) (L 4) (L 5))) rfl (by kernel_rfl) (fun L L' h=>by show (C5c b8 b9 b10 [x0,x1,x2,x3,x4] c9 c10 ef (L 3) (L 4) (L 5))=(C5c b8 b9 b10 [x0,x1,x2,x3,x4] c9 c10 ef (L' 3) (L' 4) (L' 5));rw [h 3 (by decide),h 4 (by decide),h 5 (by decide)]) rfl ?_
 refine SM (.agg zvA) rfl (fun L h1 h2 h3=>?_) ?_
 ·show StepX _ _ _ _ _ (C5c b8 b9 b10 [x0,x1,x2,x3,x4] c9 c10 ef (L 3) (L 4) (L 5)) (C5c b8 b9 b10 [x0,x1,x2,x3,x4] c9 c10 ef (L 3) (L 4) (L 5)) _ _ _
  exact X_stillX rfl rfl rfl trivial
 refine sm rfl ⟨trivial,?_⟩
 refine sm rfl ⟨trivial,?_⟩
 refine SM .bad rfl (fun L h1 h2 h3=>?_) ?_
 ·show StepX _ _ _ _ _ (C5c b8 b9 b10 [x0,x1,x2,x3,x4] c9 c10 ef (L 3) (L 4) (L 5)) (C5c b8 b9 b10 [x0,x1,x2,x3,x4] c9 c10 ef true (L 4) (L 5)) _ _ _
  rw [show L 3=false from h3]
  exact X_storeB 0 (writesN_box (cells:=[x0,x1,x2,x3,x4]) (new:=zvA) (o:=0) (by show 0+5≤5;decide)) rfl rfl rfl rfl rfl rfl rfl
 refine SM .bad rfl (fun L h1 h2 h3=>?_) ?_
 ·show StepX _ _ _ _ _ (C5c b8 b9 b10 [x0,x1,x2,x3,x4] c9 c10 ef (L 3) (L 4) (L 5)) (C5c b8 b9 b10 [x0,x1,x2,x3,x4] c9 c10 ef (L 3) true (L 5)) _ _ _
  rw [show L 4=false from h3]
  exact (X_storeP 1 (writes_box (cells:=[I64 c9]) (o:=0) Nat.one_pos) rfl rfl rfl rfl rfl rfl rfl).perm (by exact List.Perm.swap _ _ _)
 refine SM .bad rfl (fun L h1 h2 h3=>?_) ?_
 ·show StepX _ _ _ _ _ (C5c b8 b9 b10 [x0,x1,x2,x3,x4] c9 c10 ef (L 3) (L 4) (L 5)) (C5c b8 b9 b10 [x0,x1,x2,x3,x4] c9 c10 ef (L 3) (L 4) true) _ _ _
  rw [show L 5=false from h3]
  exact (X_storeP 2 (writes_box (cells:=[I64 c10]) (o:=0) Nat.one_pos) rfl rfl rfl rfl rfl rfl rfl).perm (by exact (List.perm_middle (l₁:=[_,_])).symm)
 refine sm rfl ?_
 exact ⟨_,resC3 b8 b9 b10 zvA 0 ef,[],rfl,by rw [List.append_nil];exact .refl _,rfl,rfl,rfl⟩
end Go.Proofs

namespace Go.Proofs
open Go.Sy Go.Lib

abbrev zVal:Val:=⟨0,0,[],[],[]⟩
noncomputable def DDec_F (l:List Dcl) (nm s:List UInt8) (most:Int):Option (Val×Int×Int) :=
 if kindL l nm≠1 then some (zVal,0,8)
 else match payF most 0 8 with
  | .error e=>some (zVal,0,e)
  | .ok m=>Option.bind (fieldsF l (DContent_X l most FU) nm s 0 m) fun r=>match r with
   | .error e=>some (zVal,0,e)
   | .ok q=>some (q.1,q.2,0)

theorem res3 {G:IM} {w:World} {b8 b9 b10:Nat} {x0 x1 x2 x3 x4:AV} {c9 c10:Int} (him:AV.imm.immL [x0,x1,x2,x3,x4]=true) (h:AbsOK G w (resC3 b8 b9 b10 [x0,x1,x2,x3,x4] c9 c10)) {tmps:Array Value}
  (h8:tmps[8]?=some (.pointer (some ⟨b8,0,none⟩))) (h9:tmps[9]?=some (.pointer (some ⟨b9,0,none⟩))) (h10:tmps[10]?=some (.pointer (some ⟨b10,0,none⟩))) :
  ∃ v,(results Tryz.f11 tmps).run Tryz.prog w=.ok v w∧RepI G (.tup [.agg [x0,x1,x2,x3,x4],I64 c9,I64 c10]) v:=by
 let e:Env:=⟨G,fun _=>0,fun _=>undef⟩
 have hrd:∀ (A:Abs) (b:Nat) (cells:List AV),A∈resC3 b8 b9 b10 [x0,x1,x2,x3,x4] c9 c10→Reads A b 0 cells→Readable e w b 0 cells:=fun A b cells hA hR j c hc=>by
  obtain ⟨z,z1,z2,z3⟩:=hR G w (h.1 A hA) j c hc
  exact ⟨z,z1,RepI.toRep (e:=e) c z2,z3⟩
 obtain ⟨v8,p8,q8⟩:=load_sound Tryz.tabOK (t:=26) rfl (hrd (boxA b8 26 [x0,x1,x2,x3,x4]) b8 _ (by simp [resC3]) (reads_box 0)) (av:=.agg [x0,x1,x2,x3,x4]) rfl
 obtain ⟨v9,p9,q9⟩:=load_sound Tryz.tabOK (t:=3) rfl (hrd (boxA b9 3 [I64 c9]) b9 _ (by simp [resC3]) (reads_box 0)) (av:=I64 c9) rfl
 obtain ⟨v10,p10,q10⟩:=load_sound Tryz.tabOK (t:=35) rfl (hrd (boxA b10 35 [I64 c10]) b10 _ (by simp [resC3]) (reads_box 0)) (av:=I64 c10) rfl
 refine ⟨.tuple #[v8,v9,v10],?_,?_⟩
 ·rw [results_eq]
  have hres:Tryz.f11.results=#[.cell 8 26,.cell 9 3,.cell 10 35]:=by kernel_rfl
  rw [hres,Array.mapM_eq_mapM_toList]
  simp only [Sem.run_bind,Sem.run_map,List.mapM_cons,List.mapM_nil,resF,Array.getD_eq_getD_getElem?,h8,h9,h10,Option.getD_some,asAddr,Sem.run_pure,Result.andThen_ok,q8 w (SameAs.refl w),q9 w (SameAs.refl w),q10 w (SameAs.refl w)]
  rfl
 ·have hI:RepIT G [.agg [x0,x1,x2,x3,x4],I64 c9,I64 c10] [v8,v9,v10]:=by
   simp only [RepIT]
   exact ⟨_,_,rfl,Rep.toI _ (by simpa [AV.imm] using him) p8,_,_,rfl,Rep.toI _ rfl p9,_,_,rfl,Rep.toI _ rfl p10,rfl⟩
  simp only [RepI]
  exact ⟨_,rfl,hI⟩

def DEnd (b:Nat) (l:List Dcl) (G:IM) (w:World) (r:Val×Int×Int):Ending→World→Prop:=fun en w'=>∃ x cr cs' G',((x=.tup [.agg (Val.c r.1),I64 r.2.1,I64 r.2.2]∨(r.1=zVal∧x=.tup [.agg zvA,I64 r.2.1,I64 r.2.2]))∧cs'=[vmA b l])∧en=.returned cr∧RepI G' x cr∧TrA G w [vmA b l] G' w' cs'
def P7d:Pl:=⟨[[],[],[1],[1,2],[1,2,3],[0],[0,1,2,3,4,5],[0,1,2,3,4,5,6]],[5,6,7],[],[]⟩
def C7d (b8 b9 b10 b tk:Nat) (l:List Dcl) (most made:Int) (v:Val) (l6:Bool):List Ch :=
 [.abs (boxA b8 26 (Val.c v)),.abs (boxA b9 3 (bif l6 then [I64 made] else [I64 0])),.abs (boxA b10 35 [I64 0]),.abs (vmA b l),.abs (tkrC tk b most made)]

set_option maxHeartbeats 1600000 in
theorem Decode_A0 (b:Nat) (l:List Dcl) (hP:Prep l) (hW:WellL l) (nm s:List UInt8) (most:Int) (r:Val×Int×Int) (h:DDec_F l nm s most=some r) :
  FnA Tryz.prog 11 [PT b 0,.s nm,.s s,I64 most] [vmA b l] (fun x cs'=>(x=.tup [.agg (Val.c r.1),I64 r.2.1,I64 r.2.2]∨(r.1=zVal∧x=.tup [.agg zvA,I64 r.2.1,I64 r.2.2]))∧cs'=[vmA b l]):=by
 unfold DDec_F at h
 refine ⟨⟨Tryz.f11,Tryz.func11,by kernel_rfl,by kernel_rfl⟩,?_⟩
 intro G w cargs him hrep hcs
 show Calls Tryz.prog 11 cargs.toArray w (DEnd b l G w r)
 refine calls_of_wp_defers Tryz.func11 rfl ?_
 have hn:Tryz.f11.ntmps=33:=by kernel_rfl
 let X:Ctx Tryz.prog Tryz.tab:=⟨Tryz.tabOK,Tryz.wide_,w,G,blocks [vmA b l],fun _=>0,fun _ _ _=>False,[]⟩
 let e:Env:=⟨G,fun _=>0,fun _=>undef⟩
 have hheap:HeapOK X e w ([vmA b l].map Ch.abs):=by
  refine ⟨[vmA b l].map (fun A=>(Ch.abs A,A.bs)),by simp [Function.comp_def],?_,by rw [flat_abs];exact hcs.2.1,?_⟩
  ·intro p hp
   obtain ⟨A,hA,rfl⟩:=List.mem_map.1 hp
   exact ⟨rfl,hcs.1 A hA⟩
  ·rw [flat_abs]
   intro b hb
   exact ⟨(hcs.2.2 b hb).1,.inr hb,(hcs.2.2 b hb).2⟩
 have r0:Rel X 33 e ⟨enumA 0 [PT b 0,.s nm,.s s,I64 most],[vmA b l].map Ch.abs⟩ { tmps:=cargs.toArray++Array.replicate (33-cargs.toArray.size) undef,defers:=[] } w :=
  Rel.enter rfl rfl him (RepIT.toRep (e:=e) _ hrep) (by simp) hheap rfl
 rw [hn]
 refine wp_seq ?_
 refine Code.wp_mono (fun ex a1 w1 hc=>?_) ((?_:SymC X 33 _ _ (fun ex st=>ex=.normal∧∃ b8 b9 b10,st=⟨[(0,PT b 0),(1,.s nm),(2,.s s),(3,I64 most),(8,PT b8 0),(9,PT b9 0),(10,PT b10 0)],(resC3 b8 b9 b10 zvA 0 0).map Ch.abs++[.abs (vmA b l)]⟩)) e _ w r0)
 rotate_left
 ·refine sc rfl ?_
  refine so rfl ?_
  refine so rfl ?_
  refine so rfl ?_
  refine O_absb 8 rfl rfl rfl (fun b8=>?_)
  refine O_absb 9 rfl rfl rfl (fun b9=>?_)
  refine O_absb 10 rfl rfl rfl (fun b10=>?_)
  refine O_le _ (Le.sub (s2:=⟨[(0,PT b 0),(1,.s nm),(2,.s s),(3,I64 most),(8,PT b8 0),(9,PT b9 0),(10,PT b10 0)],[.abs (boxA b10 35 [I64 0]),.abs (boxA b9 3 [I64 0]),.abs (boxA b8 26 zvA),.abs (vmA b l)]⟩) [1000000,1000000,1000000,1000000] ⟨rfl,rfl,rfl,rfl,rfl,rfl,rfl,trivial⟩ rfl) ?_
  refine O_le _ (Le.order [2,1,0,0] rfl) ?_
  refine O_nil ?_
  exact ⟨rfl,b8,b9,b10,rfl⟩
 cases ex with
 | normal =>
  obtain ⟨e1,st,r1,_,b8,b9,b10,rfl⟩:=hc
  show Code.wp _ _ _ a1 w1
  refine wp_seq ?_
  refine wp_deferF r1 (cavs:=[PT b8 0,PT b9 0,PT b10 0]) rfl rfl rfl (fun vs a2 hvs hr2=>?_)
  show Code.wp _ _ _ a2 w1
  let D:Deferred:={ target:=.fn (.func 21) vs,args:=#[] }
  let thr:AV→List Abs→Prop:=fun x cs'=>∃ ef x0 x1 x2 x3 x4 c9 c10,x=errA ef∧r=(zVal,0,ef)∧cs'=vmA b l::resC3 b8 b9 b10 [x0,x1,x2,x3,x4] c9 c10
  let pan:List PanicEntry→Act→World→Prop:=fun ch a' w'=>∃ x v cs' G',thr x cs'∧ch=[{ v:=v,recovered:=false }]∧RepI G' x v∧TrA G w [vmA b l] G' w' cs'∧a'.tmps[8]?=some (.pointer (some ⟨b8,0,none⟩))∧a'.tmps[9]?=some (.pointer (some ⟨b9,0,none⟩))∧a'.tmps[10]?=some (.pointer (some ⟨b10,0,none⟩))
  let X2:=X.later D pan
  have r2:Rel X2 33 _ _ a2 w1:=hr2 pan
  have hvs2:vs=#[.pointer (some ⟨b8,0,none⟩),.pointer (some ⟨b9,0,none⟩),.pointer (some ⟨b10,0,none⟩)]:=by
   simp only [RepIT,RepI] at hvs
   obtain ⟨_,_,h1,rfl,_,_,rfl,rfl,_,_,rfl,rfl,rfl⟩:=hvs
   rw [← Array.toList_inj,h1]
  have slot:∀ (e':Env) (st':St) (a':Act) (w':World) (i b:Nat),Rel X2 33 e' st' a' w'→get st'.s i=some (PT b 0)→a'.tmps[i]?=some (.pointer (some ⟨b,0,none⟩)):=fun e' st' a' w' i b hr hg=>by
   obtain ⟨v,h1,h2⟩:=hr.slots i _ hg
   simp only [Rep] at h2
   subst h2;exact h1
  have hpan:∀ (st:St) (x:AV),get st.s 8=some (PT b8 0)→get st.s 9=some (PT b9 0)→get st.s 10=some (PT b10 0)→∀ cs' rest,st.c.Perm (cs'.map Ch.abs++rest)→thr x cs'→PanX X2 33 st x:=fun st x g8 g9 g10 cs' rest hp ht e' a' w' v hr hv =>
   ⟨x,v,cs',e'.G,ht,rfl,hv,hr.trA hp rfl,slot e' st a' w' 8 b8 hr g8,slot e' st a' w' 9 b9 hr g9,slot e' st a' w' 10 b10 hr g10⟩
  have hinv:∀ w:World,(invoke (.fn (.func 21) vs) #[]).run Tryz.prog w=.ok (.enter 21 #[.pointer (some ⟨b8,0,none⟩),.pointer (some ⟨b9,0,none⟩),.pointer (some ⟨b10,0,none⟩)]) w:=fun w=>by
   rw [hvs2];simp [go_sem]
  refine Code.wp_mono (fun ex a' w' hc=>?_) ((?_:SymC X2 33 _ _ (fun ex st=>(ex=.normal∨ex=.ret)∧get st.s 8=some (PT b8 0)∧get st.s 9=some (PT b9 0)∧get st.s 10=some (PT b10 0) ∧
   ∃ x0 x1 x2 x3 x4 c9 c10 rest,AV.imm.immL [x0,x1,x2,x3,x4]=true∧((.tup [.agg [x0,x1,x2,x3,x4],I64 c9,I64 c10]:AV)=.tup [.agg (Val.c r.1),I64 r.2.1,I64 r.2.2]∨(r.1=zVal∧(.tup [.agg [x0,x1,x2,x3,x4],I64 c9,I64 c10]:AV)=.tup [.agg zvA,I64 r.2.1,I64 r.2.2]))∧st.c.Perm ((vmA b l::resC3 b8 b9 b10 [x0,x1,x2,x3,x4] c9 c10).map Ch.abs++rest))) e1 _ w1 r2)
  ·have hfin0:=trivial
   have fin:∀ (e':Env) (st':St),Rel X2 33 e' st' a' w'→get st'.s 8=some (PT b8 0)∧get st'.s 9=some (PT b9 0)∧get st'.s 10=some (PT b10 0)∧(∃ x0 x1 x2 x3 x4 c9 c10 rest,AV.imm.immL [x0,x1,x2,x3,x4]=true∧((.tup [.agg [x0,x1,x2,x3,x4],I64 c9,I64 c10]:AV)=.tup [.agg (Val.c r.1),I64 r.2.1,I64 r.2.2]∨(r.1=zVal∧(.tup [.agg [x0,x1,x2,x3,x4],I64 c9,I64 c10]:AV)=.tup [.agg zvA,I64 r.2.1,I64 r.2.2]))∧st'.c.Perm ((vmA b l::resC3 b8 b9 b10 [x0,x1,x2,x3,x4] c9 c10).map Ch.abs++rest))→Leaves Tryz.prog Tryz.f11 a'.tmps (DEnd b l G w r) a'.defers .returning w':=by
    rintro e' st' hr ⟨g8,g9,g10,x0,x1,x2,x3,x4,c9,c10,rest,himm,hgood,hperm⟩
    rw [show a'.defers=[D] from hr.defers]
    refine leaves_cons (by simp) (hinv w') ?_
    refine (clo_ret b8 b9 b10 w').mono ?_
    rintro en u' w'' ⟨⟨v,rfl⟩,rfl,rfl⟩
    have htr:=hr.trA hperm (bs:=[vmA b l]) rfl
    obtain ⟨v2,h1,h2⟩:=res3 himm htr.2.2.2.1.tail (slot e' st' a' _ 8 b8 hr g8) (slot e' st' a' _ 9 b9 hr g9) (slot e' st' a' _ 10 b10 hr g10)
    exact ⟨v2,h1,_,v2,[vmA b l],e'.G,⟨hgood,rfl⟩,rfl,h2,htr.head⟩
   cases ex with
   | normal=>obtain ⟨e',st',h1,_,h2⟩:=hc;exact fin e' st' h1 h2
   | ret=>obtain ⟨e',st',h1,_,h2⟩:=hc;exact fin e' st' h1 h2
   | exit id=>obtain ⟨e',st',h1,h2,_⟩:=hc;rcases h2 with h2|h2<;>cases h2
   | goto l=>obtain ⟨e',st',h1,h2,_⟩:=hc;rcases h2 with h2|h2<;>cases h2
   | panic ch =>
    obtain ⟨hd,x,v,cs',G',⟨ef,x0,x1,x2,x3,x4,c9,c10,rfl,hr',rfl⟩,rfl,hv,htr,t8,t9,t10⟩:=hc
    show Leaves Tryz.prog Tryz.f11 a'.tmps (DEnd b l G w r) a'.defers _ w'
    rw [show a'.defers=[D] from hd]
    refine leaves_cons (by simp) (hinv w') ?_
    refine (clo_pan b8 b9 b10 x0 x1 x2 x3 x4 c9 c10 ef G' w' htr.2.2.1 htr.2.2.2.1.tail v hv).mono ?_
    rintro en u' w'' ⟨⟨rv,rfl⟩,rfl,G2,htr2⟩
    have htr3:=htr.trans (htr2.frame htr.2.2.2.1)
    obtain ⟨v2,h1,h2⟩:=res3 (G:=G2) rfl htr3.2.2.2.1.tail t8 t9 t10
    exact ⟨v2,h1,_,v2,[vmA b l],G2,⟨.inr ⟨by rw [hr'],by rw [hr'];rfl⟩,rfl⟩,rfl,h2,htr3.head⟩
   | outgrown=>exact hc.elim
  refine C_le _ (Le.sub (s2:=⟨[(0,PT b 0),(1,.s nm),(2,.s s),(3,I64 most),(8,PT b8 0),(9,PT b9 0),(10,PT b10 0)],[.abs (boxA b8 26 zvA),.abs (boxA b9 3 [I64 0]),.abs (boxA b10 35 [I64 0]),.abs (vmA b l)]⟩) [1000000,1000000,1000000,1000000] ⟨rfl,rfl,rfl,rfl,rfl,rfl,rfl,trivial⟩ rfl) ?_
  repeat (first|refine sc rfl ?_|refine so rfl ?_)
  refine O_cA [3] (vKind_w b l hP hW nm _ rfl) ?_
  rintro r' cs' ⟨rfl,rfl⟩
  repeat refine so rfl ?_
  refine C_if rfl (fun c1=>?_) (fun c1=>?_)<;>simp only [pL] at c1
  ·rw [if_pos c1] at h
   cases h
   repeat refine sc rfl ?_
   refine O_Xd (X_loadP 1 (reads_box 0) rfl rfl rfl rfl rfl rfl) ?_
   refine O_Xn (X_storeB 1 (writesN_box (cells:=zvA) (new:=zvA) (o:=0) (by show 0+5≤5;decide)) rfl rfl rfl rfl rfl rfl rfl) ?_
   refine O_Xn (X_storeP 2 (writes_box (cells:=[I64 0]) (o:=0) Nat.one_pos) rfl rfl rfl rfl rfl rfl rfl) ?_
   refine O_Xn (X_storeP 3 (writes_box (cells:=[I64 0]) (o:=0) Nat.one_pos) rfl rfl rfl rfl rfl rfl rfl) ?_
   repeat (first|refine sc rfl ?_|refine so rfl ?_)
   exact ⟨.inr rfl,rfl,rfl,rfl,_,_,_,_,_,_,_,[],rfl,.inr ⟨rfl,rfl⟩,pickA_perm (is:=[3,2,1,0]) (As:=vmA b l::resC3 b8 b9 b10 zvA 0 8) rfl⟩
  rw [if_neg (by simpa using c1)] at h
  repeat refine sc rfl ?_
  iterate 4 refine so rfl ?_
  refine O_absb 21 rfl rfl rfl (fun tk=>?_)
  repeat (first|refine sc rfl ?_|refine so rfl ?_)
  have hpx:=pay_x b l tk most 0 8
  cases hp:payF most 0 8 with
  | error e =>
   rw [hp] at h hpx
   cases h
   refine O_throw [1,0] (FnX.err hpx) (by rfl) (by rfl) (by rfl) (by rfl) ?_
   rintro x cs' ⟨rfl,m',rfl⟩
   exact hpan _ _ rfl rfl rfl (vmA b l::resC3 b8 b9 b10 zvA 0 0) [.abs (tkrC tk b most m')] (pickA_perm (is:=[0,1,1,1]) rfl) ⟨e,_,_,_,_,_,_,_,rfl,rfl,rfl⟩
  | ok m =>
   rw [hp] at h hpx
   simp only [] at h
   obtain ⟨q,hq,h⟩:=bT h
   refine O_cA [1,0] (FnX.ok hpx) ?_
   rintro r' cs' ⟨rfl,rfl⟩
   repeat (first|refine sc rfl ?_|refine so rfl ?_)
   have hfx:=fields_x b l hP hW tk most (DContent_X l most FU) (DContent_w b l hP hW tk most FU) m nm s 0 q hq
   cases q with
   | error e =>
    cases h
    refine O_throw [0,0] (FnX.err hfx) (by rfl) (by rfl) (by rfl) (by rfl) ?_
    rintro x cs' ⟨rfl,m',rfl⟩
    exact hpan _ _ rfl rfl rfl (vmA b l::resC3 b8 b9 b10 zvA 0 0) [.abs (tkrC tk b most m')] (pickA_perm (is:=[0,1,1,1]) rfl) ⟨e,_,_,_,_,_,_,_,rfl,rfl,rfl⟩
   | ok q =>
    cases h
    refine O_cA [0,0] (FnX.ok hfx) ?_
    rintro r' cs' ⟨rfl,rfl⟩
    repeat refine sc rfl ?_
    refine O_Xn (X_storeB 2 (writesN_box (cells:=zvA) (new:=Val.c q.1) (o:=0) (by show 0+5≤5;decide)) rfl rfl rfl rfl rfl rfl rfl) ?_
    repeat (first|refine sc rfl ?_|refine so rfl ?_)
    refine C_le _ (Le.sub (s2:=⟨[(8,PT b8 0),(9,PT b9 0),(10,PT b10 0),(11,PT tk 0)],[.abs (boxA b8 26 (Val.c q.1)),.abs (vmA b l),.abs (tkrC tk b most q.2),.abs (boxA b9 3 [I64 0]),.abs (boxA b10 35 [I64 0])]⟩) [1000000,1000000,1000000,1000000,1000000] ⟨rfl,rfl,rfl,rfl,trivial⟩ rfl) ?_
    refine C_le _ (Le.order [0,2,2,0,0] rfl) ?_
    refine C_drawM P7d (fun L=>(C7d b8 b9 b10 b tk l most q.2 q.1 (L 6))) rfl (by kernel_rfl) (fun L L' h=>by show (C7d b8 b9 b10 b tk l most q.2 q.1 (L 6))=(C7d b8 b9 b10 b tk l most q.2 q.1 (L' 6));rw [h 6 (by decide)]) rfl ?_
    refine SM (.agg (Val.c q.1)) rfl (fun L h1 h2 h3=>?_) ?_
    ·show StepX _ _ _ _ _ (C7d b8 b9 b10 b tk l most q.2 q.1 (L 6)) (C7d b8 b9 b10 b tk l most q.2 q.1 (L 6)) _ _ _
     exact X_loadP 0 (reads_box 0) rfl rfl rfl rfl rfl rfl
    refine sm rfl ⟨trivial,?_⟩
    refine sm rfl ⟨trivial,?_⟩
    refine sm rfl ⟨trivial,?_⟩
    refine SM (I64 q.2) rfl (fun L h1 h2 h3=>?_) ?_
    ·show StepX _ _ _ _ _ (C7d b8 b9 b10 b tk l most q.2 q.1 (L 6)) (C7d b8 b9 b10 b tk l most q.2 q.1 (L 6)) _ _ _
     exact X_loadP 4 (reads_box 2) rfl rfl rfl rfl rfl rfl
    refine SM .bad rfl (fun L h1 h2 h3=>?_) ?_
    ·show StepX _ _ _ _ _ (C7d b8 b9 b10 b tk l most q.2 q.1 (L 6)) (C7d b8 b9 b10 b tk l most q.2 q.1 (L 6)) _ _ _
     exact X_storeB 0 (writesN_box (cells:=Val.c q.1) (new:=Val.c q.1) (o:=0) (by show 0+5≤5;decide)) rfl rfl rfl rfl rfl rfl rfl
    refine SM .bad rfl (fun L h1 h2 h3=>?_) ?_
    ·show StepX _ _ _ _ _ (C7d b8 b9 b10 b tk l most q.2 q.1 (L 6)) (C7d b8 b9 b10 b tk l most q.2 q.1 true) _ _ _
     rw [show L 6=false from h3]
     exact (X_storeP 1 (writes_box (cells:=[I64 0]) (o:=0) Nat.one_pos) rfl rfl rfl rfl rfl rfl rfl).perm (by exact List.Perm.swap _ _ _)
    refine SM .bad rfl (fun L h1 h2 h3=>?_) ?_
    ·show StepX _ _ _ _ _ (C7d b8 b9 b10 b tk l most q.2 q.1 (L 6)) (C7d b8 b9 b10 b tk l most q.2 q.1 (L 6)) _ _ _
     exact (X_storeP 2 (writes_box (cells:=[I64 0]) (o:=0) Nat.one_pos) rfl rfl rfl rfl rfl rfl rfl).perm (by exact (List.perm_middle (l₁:=[_,_])).symm)
    refine sm rfl ?_
    show SymC _ _ _ ⟨_,C7d b8 b9 b10 b tk l most q.2 q.1 true⟩ _
    repeat refine sc rfl ?_
    exact ⟨.inr rfl,rfl,rfl,rfl,_,_,_,_,_,_,_,[.abs (tkrC tk b most q.2)],rfl,.inl rfl,pickA_perm (is:=[3,0,0,0]) (As:=vmA b l::resC3 b8 b9 b10 (Val.c q.1) q.2 0) rfl⟩
 | ret=>obtain ⟨e',st',h1,h2,_⟩:=hc;cases h2
 | exit id=>obtain ⟨e',st',h1,h2,_⟩:=hc;cases h2
 | goto l=>obtain ⟨e',st',h1,h2,_⟩:=hc;cases h2
 | panic ch=>exact hc.2.elim
 | outgrown=>exact hc.elim
end Go.Proofs

namespace Go.Proofs
open Go.Sy Go.Lib

abbrev tyN (nm:List UInt8):Ty:=⟨6,nm,[]⟩
theorem tyN_ok {l:List Dcl} {nm:List UInt8} (h:kindL l nm=1∨kindL l nm=2∨kindL l nm=3):TyOK l true (tyN nm) :=
 .mk rfl (fun h=>absurd rfl h) (fun _=>h) (fun h=>by simp at h) (fun h=>by simp at h) (fun i hi=>absurd hi (Nat.not_lt_zero _))
theorem strip_N (nm:List UInt8):strip (tyN nm)=tyN nm:=strip_ne (show (6:Int)≠9 by decide)

theorem deep_tot:∀ (m:Nat) (v:Val),v.deep≤m→v.deep≤1000→LenB v→DeepV_X m v=some ((v.deep:Nat):Int)
 | 0,v,hm,_,_=>by rw [deep_eq] at hm;omega
 | m+1,v,hm,hd,⟨h1,h2,h3,h4⟩=>by
  simp only [DeepV_X,DeepV_F]
  rw [deep_eq] at hm hd
  have take_deep:∀ {l:List Val} {i:Nat},i<l.length→Val.deeps (l.take (i+1))=max (Val.deeps (l.take i)) (l.getD i default).deep:=fun {l i} h=>by
   rw [List.take_succ_eq_append_getElem h,← getD_at h,deeps_snoc]
  have hg:=Iter_goS (body:=DeepV_L1 (DeepV_X m) v) v.items.length (fun i=>((Val.deeps (v.items.take i):Nat):Int)) ((Val.deeps v.items:Nat):Int) (fun i hi=>by
    have h:=deeps_ge hi
    unfold DeepV_L1
    rw [cDT (by simp only [];omega),chk_pos (by simp only [];omega),Int.toNat_natCast,deep_tot m _ (by omega) (by omega) (h4 i hi)]
    simp only [Option.bind_some]
    rw [w64 (by omega) (by omega),take_deep hi]
    congr 3
    omega) (by
    unfold DeepV_L1
    rw [cDF (by simp only [];omega),List.take_length])
  have e0:((Val.deeps (v.items.take 0):Nat):Int)=0:=by rw [List.take_zero];rfl
  simp only [e0] at hg
  rw [hg]
  simp only [Option.bind_some]
  rw [w64 (by omega) (by omega),deep_eq]
  congr 1;omega

theorem fitS_tot {l:List Dcl} (hS:Sch l) (nm:List UInt8) (v:Val) (hL:LenB v) (hd:v.deep≤1000):∃ e,FitStruct_F l nm v=some e∧(e=0→kindL l nm=1∧Fit l 8 (tyN nm) v):=by
 unfold FitStruct_F
 rw [DKind_F,Option.bind_some]
 by_cases hk:kindL l nm=1
 ·rw [hk]
  show ∃ e,Option.bind (FitFits_F l (tyN nm) v) some=some e∧_
  unfold FitFits_F
  obtain ⟨b,hb,hw⟩:=well_tot FU v hL (by unfold FU;omega)
  rw [hb,Option.bind_some]
  cases b with
  | false=>exact ⟨1,rfl,fun h=>by cases h⟩
  | true =>
   rw [Bool.not_true,cond_false,deep_tot FU v (by unfold FU;omega) hd hL,Option.bind_some]
   by_cases h8:(8:Int)<((v.deep:Nat):Int)
   ·rw [cDT h8];exact ⟨10,rfl,fun h=>by cases h⟩
   ·rw [cDF h8]
    obtain ⟨e,h1,h2⟩:=fits_tot hS 8 FU FU true (tyN nm) v (tyN_ok (.inl hk)) hL hb (by unfold FU;omega) (by omega) (by unfold FU;omega)
    rw [h1]
    exact ⟨e,rfl,fun h=>⟨rfl,h2 h⟩⟩
 ·rw [bne_iff_ne.2 hk]
  exact ⟨8,rfl,fun h=>by cases h⟩
theorem fitS_ok {l:List Dcl} (hS:Sch l) {nm:List UInt8} {v:Val} (hL:LenB v) (hk:kindL l nm=1) (hF:Fit l 8 (tyN nm) v):FitStruct_F l nm v=some 0:=by
 have hT:=tyN_ok (l:=l) (nm:=nm) (.inl hk)
 obtain ⟨hd,hw⟩:=fit_well hS 8 true (tyN nm) v hT hF hL
 unfold FitStruct_F
 rw [DKind_F,Option.bind_some,hk]
 show Option.bind (FitFits_F l (tyN nm) v) some=some 0
 unfold FitFits_F
 rw [hw FU (by unfold FU;omega),Option.bind_some,Bool.not_true,cond_false,deep_tot FU v (by unfold FU;omega) (by omega) hL,Option.bind_some,cDF (by omega),fit_fits hS 8 FU true (tyN nm) v hT hF hL (by unfold FU;omega)]
 rfl

theorem encS_fit {l:List Dcl} (hS:Sch l) {nm:List UInt8} {v:Val} (hL:LenB v) (hk:kindL l nm=1) (hF:Fit l 8 (tyN nm) v) (hlen:(encI l 8 (tyN nm) v).length≤1000000) :
  EnEncode_F l nm v=some (if 1024<(encI l 8 (tyN nm) v).length then ([],3) else (encI l 8 (tyN nm) v,0)):=by
 have hT:=tyN_ok (l:=l) (nm:=nm) (.inl hk)
 have hfit:=fitS_ok hS hL hk hF
 have hff:FitFits_F l (tyN nm) v=some 0:=by
  unfold FitStruct_F at hfit
  rw [DKind_F,Option.bind_some,hk] at hfit
  have hfit':Option.bind (FitFits_F l (tyN nm) v) some=some 0:=hfit
  cases hq:FitFits_F l (tyN nm) v with
  | none=>rw [hq] at hfit';cases hfit'
  | some e=>rw [hq] at hfit';exact hfit'
 unfold EnEncode_F
 rw [hfit,Option.bind_some,show ((0:Int) != 0)=false from rfl,cond_false]
 have hin:EnInside_F l (tyN nm) v=some (encI l 8 (tyN nm) v,0):=by
  unfold EnInside_F
  rw [hff,Option.bind_some,show ((0:Int) != 0)=false from rfl,cond_false,enc_ok hS 8 FU true (tyN nm) v hT hF (by unfold FU;omega) hlen];rfl
 rw [hin,Option.bind_some]
 simp only []
 rw [show ((0:Int) == 0)=true from rfl,cond_true,Option.bind_some]
 by_cases hc:1024<(encI l 8 (tyN nm) v).length
 ·rw [if_pos hc,cDT (by omega)]
 ·rw [if_neg hc,cDF (by omega)]
theorem encS_err {l:List Dcl} {nm:List UInt8} {v:Val} {e:Int} (h:FitStruct_F l nm v=some e) (he:e≠0):EnEncode_F l nm v=some ([],e):=by
 unfold EnEncode_F
 rw [h,Option.bind_some,bne_iff_ne.2 he,cond_true]

theorem dec_back {l m:List Dcl} (hS:Sch l) (hm:Sch m) (hC:Cpt l m) {nm:List UInt8} {v:Val} (hk:kindL l nm=1) (hF:Fit l 8 (tyN nm) v) (hL:(encI l 8 (tyN nm) v).length<1000000) (hs:v.size≤1000000000) (most:Int) :
  ∃ v',(Full l m→v'=v)∧v'.size≤v.size∧DDec_F m nm (encI l 8 (tyN nm) v) most=some (if max most 0<(v'.size:Int) then (zVal,0,13) else (v',(v'.size:Int),0)):=by
 have e6:strip (tyN nm)=tyN nm:=strip_N nm
 cases hF with
 | bool h1 _ _=>rw [e6] at h1;cases h1
 | num h1 _ _=>rw [e6] at h1;rcases h1 with h1|h1<;>cases h1
 | text h1 _=>rw [e6] at h1;rcases h1 with h1|h1<;>cases h1
 | list h1 _=>rw [e6] at h1;cases h1
 | map h1 _ _ _=>rw [e6] at h1;cases h1
 | enum h1 h2 _ _ _=>rw [e6] at h2;simp only [] at h2;omega
 | union h1 h2 _ _=>rw [e6] at h2;simp only [] at h2;omega
 | struct h1 h2 h3 h4 h5 h6 h7 =>
  rename_i gs xs
  rw [e6] at h5 h6 h7
  obtain ⟨v',a1,_,a3,a4⟩:=struct_back hS hm hC (most:=most) (d:=7) (by omega) (nm:=nm) hk h3 h4 h5 h6 h7 (fun i hi=>core hS hm hC most 7 (by omega) false _ _ (row_ty hS (nm:=nm) (by omega) (h5 i hi)).1 (h6 i hi))
  refine ⟨v',a1,a3,?_⟩
  have e:encI l 8 (tyN nm) ⟨9,0,[],gs,xs⟩=catR (encR l (encI l 7) nm ⟨9,0,[],gs,xs⟩) 0 gs.length:=by
   simp only [encI,encF]
   rw [e6,if_neg (show ¬ ((6:Int)=4∨(6:Int)=5) by decide),if_neg (show ¬ ((6:Int)=7∨(6:Int)=8) by decide),if_pos ⟨rfl,show kindL l nm≠3 by omega⟩]
  rw [e] at hL ⊢
  have h8:=size_ge v'
  unfold DDec_F
  rw [hC.kind nm (by omega),if_neg (by omega),pay_eq (by omega) (by omega) (by omega)]
  by_cases hc:max most 0<(0:Int)+8
  ·rw [if_pos hc,if_pos (by omega)]
  ·rw [if_neg hc]
   simp only []
   have:=a4 FU (by unfold FU;omega) (0+8) hL (by omega) (by omega) (by unfold BB;omega)
   rw [show (7:Int)-((7:Nat):Int)=0 from rfl] at this
   rw [this,Option.bind_some]
   unfold resI
   have e2:(0:Int)+8+((v'.size:Int)-8)=(v'.size:Int):=by omega
   rw [e2]
   by_cases hc2:max most 0<(v'.size:Int)
   ·rw [if_pos hc2,if_pos hc2]
   ·rw [if_neg hc2,if_neg hc2]

theorem ints_same (a:List Int) (ha:a.length≤100000):IntsR_F a a=some true:=by
 unfold IntsR_F
 rw [bneF,cond_false]
 have h:=Iter_go (body:=IntsR_L2 a a) a.length (.inr ()) (fun i hi=>by
  unfold IntsR_L2
  rw [cDT (by omega),chk_pos (by omega),chk_pos (by omega),bneF,cond_false,w64 (by omega) (by omega)];rfl) (by
  unfold IntsR_L2
  rw [cDF (by omega)])
 rw [h];rfl
theorem same_same:∀ (m:Nat) (v:Val),SizeOf.sizeOf v≤m→LenB v→SameR_X m v v=some true
 | 0,v,hm,_=>by cases v;simp at hm
 | m+1,v,hm,⟨h1,h2,_,h3⟩=>by
  simp only [SameR_X,SameR_F]
  rw [bneF,bneF,bneF,ints_same _ h2,show (v.text == v.text)=true from beq_self_eq_true _]
  simp only [cond_false,cond_true,Bool.not_true,Option.bind_some]
  have h:=fun m1=>Iter_go (body:=SameR_L10 (SameR_X m) v v m1) v.items.length (.inr ()) (fun i hi=>by
   unfold SameR_L10
   rw [cDT (by omega),chk_pos (by omega),chk_pos (by omega),Int.toNat_natCast,same_same m _ (by have:=items_lt hi;omega) (h3 i hi)]
   simp only [Option.bind_some,Bool.not_true,cond_false]
   rw [w64 (by omega) (by omega)];rfl) (by
   unfold SameR_L10
   rw [cDF (by omega)])
  rw [h];rfl
theorem Same_same (v:Val) (hv:LenB v):FnP Tryz.prog 13 [.agg (Val.c v),.agg (Val.c v)] (·=B true):=SameR_wn _ v v _ (same_same _ v (Nat.le_refl _) hv)
end Go.Proofs

namespace Go.Sy
open Go.RowKit

theorem AbsOK.split {G:IM} {w:World} {A K:Abs} (hK:K.bs=[]):AbsOK G w [andA A K]↔AbsOK G w [A,K]:=by
 have he:blocks [andA A K]=blocks [A,K]:=by simp [blocks,andA]
 constructor
 ·rintro ⟨h1,h2,h3⟩
  rw [he] at h2 h3
  refine ⟨fun B hB=>?_,h2,h3⟩
  have:=h1 _ (List.mem_singleton.2 rfl)
  rcases List.mem_cons.1 hB with rfl|hB
  ·exact this.1
  ·rw [List.mem_singleton.1 hB];exact this.2
 ·rintro ⟨h1,h2,h3⟩
  rw [← he] at h2 h3
  exact ⟨fun B hB=>by rw [List.mem_singleton.1 hB];exact ⟨h1 A (by simp),h1 K (by simp)⟩,h2,h3⟩
theorem FnA.split {P:Program} {f:FuncId} {args:List AV} {A K:Abs} {φ:AV→Prop} (hK:K.bs=[]) (h:FnA P f args [andA A K] (fun r cs'=>φ r∧cs'=[andA A K])):FnA P f args [A,K] (fun r cs'=>φ r∧cs'=[A,K]):=by
 refine ⟨h.1,fun G w c h1 h2 h3=>(h.2 G w c h1 h2 ((AbsOK.split hK).2 h3)).mono ?_⟩
 rintro e w' ⟨r,cr,cs',G',⟨hp,rfl⟩,he,g1,g2,g3,g4,g5,g6,o1,o2,o3,o4,o5⟩
 have hb:blocks [andA A K]=blocks [A,K]:=by simp [blocks,andA]
 exact ⟨r,cr,_,G',⟨hp,rfl⟩,he,g1,g2,by rw [← hb];exact g3,g4,(AbsOK.split hK).1 g5,by rw [← hb];exact g6,o1,o2,o3,o4,by rw [← hb];exact o5⟩
end Go.Sy

namespace Go.Proofs
open Go.Sy Go.Lib

theorem zv_rep (G:IM) (a b:AV) (y:Value) (h:RepI G (.tup [.agg zvA,a,b]) y):RepI G (.tup [.agg (Val.c zVal),a,b]) y:=by
 simp only [RepI,RepIT] at h ⊢
 obtain ⟨vs,rfl,x,xs,h1,h2,rest⟩:=h
 refine ⟨vs,rfl,x,xs,h1,?_,rest⟩
 simp only [zvA,RepI] at h2 ⊢
 obtain ⟨ys,rfl,h3⟩:=h2
 refine ⟨ys,rfl,?_⟩
 show RepIL G [I64 0,I64 0,.s [],SL 1 INTc ([]:List Int),.sl 0 5 (Val.rows [])] ys.toList
 generalize ys.toList=zs at h3 ⊢
 simp only [RepIL] at h3 ⊢
 obtain ⟨z1,t1,e1,a1,o1,z2,t2,e2,a2,o2,z3,t3,e3,a3,o3,z4,t4,e4,a4,o4,z5,t5,e5,a5,o5,e6⟩:=h3
 exact ⟨z1,t1,e1,a1,o1,z2,t2,e2,a2,o2,z3,t3,e3,a3,o3,z4,t4,e4,repI_nil a4,o4,z5,t5,e5,repI_nil a5,o5,e6⟩
theorem Decode_A (b:Nat) (l:List Dcl) (hP:Prep l) (hW:WellL l) (nm s:List UInt8) (most:Int) (r:Val×Int×Int) (h:DDec_F l nm s most=some r) :
  FnA Tryz.prog 11 [PT b 0,.s nm,.s s,I64 most] [dscS b l,tabA] (fun x cs'=>x=.tup [.agg (Val.c r.1),I64 r.2.1,I64 r.2.2]∧cs'=[dscS b l,tabA]):=by
 refine FnA.split rfl (FnA.conv (Decode_A0 b l hP hW nm s most r h) (fun x c hx=>?_))
 rcases hx with ⟨rfl|⟨h1,rfl⟩,rfl⟩
 ·exact ⟨_,⟨rfl,rfl⟩,fun G y h=>h⟩
 ·exact ⟨_,⟨rfl,rfl⟩,fun G y h=>by rw [h1];exact zv_rep G _ _ y h⟩
theorem Encode_A (b:Nat) (l:List Dcl) (hP:Prep l) (hW:WellL l) (nm:List UInt8) (v:Val) (r:List UInt8×Int) (h:EnEncode_F l nm v=some r) :
  FnA Tryz.prog 10 [PT b 0,.s nm,.agg (Val.c v)] [dscS b l,tabA] (fun x cs'=>x=.tup [.s r.1,I64 r.2]∧cs'=[dscS b l,tabA]):=FnA.split rfl (EnEncode_w b l hP hW nm v r h)

theorem Kind_nil (nm:List UInt8):FnP Tryz.prog 22 [.v (.pointer none),.s nm] (·=I64 0):=by
 refine fnP Tryz.func22 fun X=>?_
 repeat (first|refine sc rfl ?_|refine so rfl ?_)
 refine O_Xd (X_ptrnil Tryz.underlying32 rfl rfl rfl) ?_
 repeat refine so rfl ?_
 refine C_true rfl rfl ?_
 repeat (first|refine sc rfl ?_|refine so rfl ?_)
 exact ⟨_,rfl,rfl,rfl⟩
theorem FitStruct_nil (nm:List UInt8) (v:Val):FnP Tryz.prog 14 [.v (.pointer none),.s nm,.agg (Val.c v)] (·=I64 8):=by
 refine fnP Tryz.func14 fun X=>?_
 repeat (first|refine sc rfl ?_|refine so rfl ?_)
 refine O_cP (Kind_nil nm) fun r hr=>?_
 subst hr
 repeat refine so rfl ?_
 refine C_true rfl rfl ?_
 repeat (first|refine sc rfl ?_|refine so rfl ?_)
 exact ⟨_,rfl,rfl,rfl⟩
theorem Encode_nil (nm:List UInt8) (v:Val):FnP Tryz.prog 10 [.v (.pointer none),.s nm,.agg (Val.c v)] (·=.tup [.s [],I64 8]):=by
 refine fnP Tryz.func10 fun X=>?_
 repeat (first|refine sc rfl ?_|refine so rfl ?_)
 refine O_cP (FitStruct_nil nm v) fun r hr=>?_
 subst hr
 repeat (first|refine sc rfl ?_|refine so rfl ?_)
 refine C_true rfl rfl ?_
 repeat (first|refine sc rfl ?_|refine so rfl ?_)
 exact ⟨_,rfl,rfl,rfl⟩

end Go.Proofs

namespace Go.Proofs
open Go.Sy Go.Lib

theorem fewT0 {k:Int} {nm:List UInt8}:FewT ⟨k,nm,[]⟩:=.mk (Nat.zero_le _) (fun i hi=>absurd hi (Nat.not_lt_zero _))
theorem fewT_A:FewT fA.ty:=fewT0
theorem fewL1:FewL sc1:=⟨by decide,fun i hi=>by
 obtain rfl:i=0:=by have:i<1:=hi;omega
 refine ⟨⟨by decide,fun j hj=>?_⟩,by decide⟩
 obtain rfl:j=0:=by have:j<1:=hj;omega
 exact fewT_A⟩
theorem prep1:Prep sc1:=⟨fewL1,fun i hi=>by
 obtain rfl:i=0:=by have:i<1:=hi;omega
 decide,fun i hi=>by
 obtain rfl:i=0:=by have:i<1:=hi;omega
 rfl⟩
theorem tyOK0 (l:List Dcl) (b:Bool) {k:Int} (hk:k=2∨k=4):TyOK l b ⟨k,[],[]⟩:=by
 refine .mk ?_ (fun _=>rfl) (fun h=>?_) (fun h=>?_) (fun h=>?_) (fun i hi=>absurd hi (Nat.not_lt_zero _))
 ·rcases hk with rfl|rfl<;>rfl
 all_goals (simp only [] at h;omega)
theorem well1:WellL sc1:=fun i hi=>by
 obtain rfl:i=0:=by have:i<1:=hi;omega
 refine ⟨rfl,.inl rfl,⟨fun f hf=>?_,fun f hf _=>?_⟩,⟨(fun m hm=>by cases hm),(fun m hm=>by cases hm)⟩,by decide,by decide,fun h=>by rcases h with h|h<;>exact absurd h (by decide)⟩
 ·obtain rfl:f=fA:=List.mem_singleton.1 hf
  decide
 ·obtain rfl:f=fA:=List.mem_singleton.1 hf
  exact ⟨tyOK0 _ _ (.inl rfl),by decide⟩
theorem fin1:FinL sc1:=fun i hi=>by
 obtain rfl:i=0:=by have:i<1:=hi;omega
 decide
theorem rows1:rowsU sc1 [80]=[fA]:=by
 rcases rowsU_of well1 [80] with ⟨h,_⟩|⟨j,h1,hj,_,_,hm,_,hl⟩
 ·cases h
 ·obtain rfl:j=0:=by have:j<1:=hj;omega
  match hr:rowsU sc1 [80] with
  | []=>rw [hr] at hl;cases hl
  | [x] =>
   have:=(hm x).1 (by rw [hr];simp)
   rw [List.mem_singleton.1 this]
  | x::y::z=>rw [hr] at hl;simp [sc1] at hl
def exV:Val:=⟨9,0,[],[1],[⟨2,-1,[],[],[]⟩]⟩
theorem num1 (s:List UInt8) (h:s.length≤1000) (made:Int) (h0:made=8):DContent_X sc1 100 FU ⟨2,[],[]⟩ (vput 1++s) 1 made=some (.ok (⟨2,-1,[],[],[]⟩,s,16)):=by
 subst h0
 have hw:DWire_X sc1 FU ⟨2,[],[]⟩=some 0:=rfl
 have:=num_core (m:=sc1) (most:=100) (rec:=DContent_X sc1 100 99999) (u:=⟨2,[],[]⟩) (x:=1) (v:=⟨2,-1,[],[],[]⟩) (deep:=1) (made:=8) (rest:=s) (by decide) (by decide) (by decide) hw (by
  show numWV sc1 ⟨2,[],[]⟩ ((1:Nat):Int)=_
  unfold numWV
  rw [if_neg (by decide),if_pos rfl,VBack_ok (by decide)]
  rfl) rfl (by rw [List.length_append,vput_len1 (by decide)];omega) (by decide) (by decide)
 exact this
theorem ex1:DDec_F sc1 [80] [2,1,5,1,120] 100=some (exV,16,0):=by
 have v1:vput 1=[1]:=vput_lt (by decide)
 have v2:vput 2=[2]:=vput_lt (by decide)
 have v5:vput 5=[5]:=vput_lt (by decide)
 have hf:fldJ [fA] 1=fA:=rfl
 unfold DDec_F
 rw [if_neg (by show ¬ ((1:Int)≠1);decide),pay_eq (by omega) (by omega) (by omega),if_neg (by decide)]
 simp only []
 unfold fieldsF
 have k1:=key_ok sc1 [80] (t:=1) (w:=0) (by decide) (by decide) (.inl rfl) [1,5,1,120] (by rw [show (2*(1:Int)+0).toNat=2 from rfl,v2];decide)
 rw [show (2*(1:Int)+0).toNat=2 from rfl,v2,rows1] at k1
 have k2:=key_ok sc1 [80] (t:=2) (w:=1) (by decide) (by decide) (.inr rfl) [1,120] (by rw [show (2*(2:Int)+1).toNat=5 from rfl,v5];decide)
 rw [show (2*(2:Int)+1).toNat=5 from rfl,v5,rows1] at k2
 have hn:=num1 [5,1,120] (by decide) 8 rfl
 rw [v1] at hn
 have hsk:=skip_text [120] [] (by unfold span;rw [List.length_append,List.length_append,vput_len1 (by decide)];decide)
 have hsp:span [120]=[1,120]:=by unfold span;rw [show ([120]:List UInt8).length=1 from rfl,v1];rfl
 rw [hsp] at hsk
 have g:fldGo sc1 (DContent_X sc1 100 FU) [80] 0 (4+2) [2,1,5,1,120] 0 [] [] (0+8)=some (.ok ([1],[⟨2,-1,[],[],[]⟩],16)):=by
  rw [fldGo_ne (by decide),show ([2,1,5,1,120]:List UInt8)=[2]++[1,5,1,120] from rfl,k1,Option.bind_some]
  simp only []
  rw [if_neg (by decide),show hasJ [fA] 1=true from rfl,if_neg (by decide),hf,show DWire_X sc1 FU fA.ty=some 0 from rfl,Option.bind_some,if_neg (by decide)]
  rw [show fA.ty=⟨2,[],[]⟩ from rfl,show ([1,5,1,120]:List UInt8)=[1]++[5,1,120] from rfl,show IntKind.i64.wrap ((0:Int)+1)=1 from by decide,show (0:Int)+8=8 from rfl,hn,Option.bind_some]
  simp only []
  rw [chk_pos (by decide),fldGo_ne (by decide),show ([5,1,120]:List UInt8)=[5]++[1,120] from rfl,k2,Option.bind_some]
  simp only []
  rw [if_neg (by decide),show hasJ [fA] 2=false from rfl,if_pos rfl,show ([1,120]:List UInt8)=[1,120]++[] from rfl,hsk,Option.bind_some]
  simp only []
  rw [if_neg (by decide),chk_pos (by decide)]
  rfl
 have g':fldGo sc1 (DContent_X sc1 100 FU) [80] 0 (([2,1,5,1,120]:List UInt8).length+1) [2,1,5,1,120] 0 [] [] (0+8)=some (.ok ([1],[⟨2,-1,[],[],[]⟩],16)):=g
 rw [g',Option.bind_some]
 simp only [DRows_F,Option.bind_some]
 rw [rows1,chk_pos (by decide)]
 rfl
theorem awake18_A (m:Int):FnA Tryz.prog 8 [] [glbA m,tabA] (fun r cs'=>r=B true∧cs'=[glbA m,tabA]):=by
 refine fnA Tryz.func8 fun X=>?_
 repeat (first|refine sc rfl ?_|refine so rfl ?_)
 refine O_cA [0] (Read_A m tx1 sc1 (.inl par1) fewL1 ⟨well1,fin1⟩) ?_
 rintro r cs' ⟨b1,rfl,rfl⟩
 repeat (first|refine sc rfl ?_|refine so rfl ?_)
 refine O_cA [1,2] (Decode_A b1 sc1 prep1 well1 [80] [2,1,5,1,120] 100 (exV,16,0) ex1) ?_
 rintro r cs' ⟨rfl,rfl⟩
 repeat (first|refine sc rfl ?_|refine so rfl ?_)
 refine ⟨by decide,?_⟩
 repeat (first|refine sc rfl ?_|refine so rfl ?_)
 exact ⟨_,[_,_],_,rfl,pickA_perm (is:=[4,2]) (As:=[_,_]) rfl,rfl,rfl,rfl⟩
end Go.Proofs

namespace Go.Proofs
open Go.Sy Go.Lib

theorem prep_of {l:List Dcl} (hL:Lets l) (hW:WellL l):Prep l:=⟨hL.1,fun i hi=>by have:=hL.2 i hi;omega,fun i hi=>(hW i hi).at_⟩

end Go.Proofs

namespace Go.Proofs
open Go.Sy Go.Lib

end Go.Proofs

namespace Go.Proofs.YtgmdpfoccnalnaaGreatDoor
open Go.Sy Go.RowKit Go.ChangeShapes Go.WideShapes Go.ChangeAt

theorem own:ownKnob Tryz.prog.godebug=none:=by kernel_rfl
theorem laidOut:laidOutB Tryz.prog=true:=by kernel_rfl
theorem extra:U8Extra Tryz.prog Tryz.lays197_ren:=⟨by kernel_rfl,by kernel_rfl,by kernel_rfl,by kernel_rfl,by kernel_rfl,by kernel_rfl,by kernel_rfl⟩
theorem u8types:U8Types Tryz.prog Tryz.lays197_ren:={ Tryz.lays197 with }
theorem tabs {laid : List (String × DataW Unit)} {W : World} (h : laidMet Tryz.prog laid W) (h1 : ("unicode/utf8.acceptRanges", Rows.laid_unicode_utf8_acceptRanges) ∈ laid) (h2 : ("unicode/utf8.first", Rows.laid_unicode_utf8_first) ∈ laid) : Lib.Utf8Tabs 1 2 W := by
 refine utf8Tabs_of_readsT u8types extra (w:=W) ?_ ?_
 ·have:=Lib.laidMet.reads h h2
  rw [show Rows.laid_unicode_utf8_first=Lib.firstData from Pinned.utf8First_eq] at this
  exact this
 ·have:=Lib.laidMet.reads h h1
  rw [show (Rows.laid_unicode_utf8_acceptRanges:DataW Unit)=Lib.acceptData by kernel_rfl] at this
  exact this

theorem handed_laid_shaped {H:Type} {enc:TypeId×Value→H} {a:Assume} {C:Checked} {os:Os} {f:FuncId} {fn:Func} {s:ChangeSpec} {conds:List PathCond} {apart fresh handsOn again:Bool} {Y:World→Prop} (hY:∀ w w':World,w.heap=w'.heap→Y w→Y w')
  (own:ownKnob C.prog.godebug=none) (started:os.Started) (noInit:C.prog.inits.idxOf? f=none) (hfn:C.prog.funcs[f]?=some fn)
  (witness:∃ (w:World) (tape:Tape) (i:Input),w.os=os∧(w.forCall tape i).Shaped C.prog∧i.vars=[]∧Input.okWide C.prog (w.forCall tape i) .any w.heap.size f i ∧
   ((s.pre enc C.prog fn conds apart (w.forCall tape i).memory i.args∧Y (w.forCall tape i).memory)∧sizedMet enc C.prog fn (OpenSpec.ofChange s) apart (w.forCall tape i).memory i.args)∧a.holds C.prog (lone (Frame.enter C.prog f i.args .normal) [] (w.forCall tape i)))
  (k:∀ (W:World) (base:Nat) (args:Array Value) (ds gs:List (DataW H)) (before:List MemPlace),(∀ (j:Nat) t v,fn.params[j]?=some t→args[j]?=some v→Value.okWide C.prog W .any base t v)→DataW.Whole enc C.prog fn.params.toList s.vars apart W args.toList ds gs before→Y W→W.ShapedOpen C.prog →
   Calls C.prog f args W fun e W'=>∃ v,e=.returned v∧s.post enc C.prog fn apart fresh handsOn again W args v W') :
  ReturnsInHanded a C os f .any (fun w args=>(s.pre enc C.prog fn conds apart w args∧Y w)∧sizedMet enc C.prog fn (OpenSpec.ofChange s) apart w args) (s.post enc C.prog fn apart fresh handsOn again):=by
 refine returnsInHanded_of_calls own started noInit witness ?_
 rintro w tape i-hsh - ⟨-,-,-,g,hg,-,-,-,-,hval⟩ ⟨⟨⟨ds,gs,before,hw,-⟩,hy⟩,-⟩ -
 cases osi (hg.symm.trans hfn)
 exact (k (w.forCall tape i) w.heap.size i.args ds gs before hval (DataW.Whole.of_heap (w:=(w.forCall tape i).memory) (w':=w.forCall tape i) (by rfl) hw) (hY (w.forCall tape i).memory (w.forCall tape i) (by rfl) hy) hsh).mono (fun e W' ⟨v,he,hp⟩=>he▸ChangeSpec.post_blind hp)

theorem bTy:∀ N,OpensB N Tryz.prog 58 Ty.c (fun _=>True)
 | 0=>OpensB.zero
 | N+1 =>
  opensB_struct (α:=Int×List UInt8×List Ty×Unit) (fun p=>(⟨p.1,p.2.1,p.2.2.1⟩:Ty)) Tryz.underlying58 (by kernel_rfl)
   (opensFB_cons (sz:=1) rfl (by kernel_rfl) ((opens_int Tryz.underlying3).toB N) (opensFB_cons (sz:=1) rfl (by kernel_rfl) ((opens_string Tryz.underlying9).toB N)
    (opensFB_cons (sz:=1) rfl (by kernel_rfl) ((opensB_slice (esz:=3) (cells:=Ty.c) (ok:=fun _=>True) Tryz.underlying56 (by kernel_rfl) (of_decide_eq_true rfl) (fun _=>rfl) (bTy N)).mono (Nat.le_succ N)) opensFB_nil)))
   (fun x G ys h=>by
    obtain ⟨k,nm,o,u⟩:=x
    simp only [List.cons_append,List.nil_append,Ty.c,RepIL] at h ⊢
    obtain ⟨z1,t1,e1,g1,h1,z2,t2,e2,g2,h2,z3,t3,e3,g3,h3,e4⟩:=h
    exact ⟨z1,t1,e1,g1,h1,z2,t2,e2,g2,h2,z3,t3,e3,repI_rows (fun i hi=>(Ty.rows_eq _ i hi).symm) g3,h3,e4⟩) (fun _ _=>trivial)
theorem opTy:OpensT Tryz.prog 58 Ty.c (fun _=>True):=OpensT.ofB bTy
theorem opFld:OpensT Tryz.prog 60 Fld.c (fun _=>True) :=
 opens_struct (α:=Int×List UInt8×Ty×Unit) (fun p=>(⟨p.1,p.2.1,p.2.2.1⟩:Fld)) Tryz.underlying60 (by kernel_rfl)
  (opensF_cons (sz:=1) rfl (by kernel_rfl) (opens_int Tryz.underlying3) (opensF_cons (sz:=1) rfl (by kernel_rfl) (opens_string Tryz.underlying9) (opensF_cons (sz:=3) rfl (by kernel_rfl) opTy opensF_nil))) (fun _=>rfl) (fun _ _=>trivial)
theorem opMth:OpensT Tryz.prog 127 Mth.c (fun _=>True) :=
 opens_struct (α:=Int×List UInt8×List UInt8×List UInt8×Bool×Unit) (fun p=>(⟨p.1,p.2.1,p.2.2.1,p.2.2.2.1,p.2.2.2.2.1⟩:Mth)) Tryz.underlying127 (by kernel_rfl)
  (opensF_cons (sz:=1) rfl (by kernel_rfl) (opens_int Tryz.underlying3) (opensF_cons (sz:=1) rfl (by kernel_rfl) (opens_string Tryz.underlying9) (opensF_cons (sz:=1) rfl (by kernel_rfl) (opens_string Tryz.underlying9)
   (opensF_cons (sz:=1) rfl (by kernel_rfl) (opens_string Tryz.underlying9) (opensF_cons (sz:=1) rfl (by kernel_rfl) (opens_bool Tryz.underlying4) opensF_nil))))) (fun _=>rfl) (fun _ _=>trivial)
theorem opDcl:OpensT Tryz.prog 53 Dcl.c (fun _=>True) :=
 opens_struct (α:=Int×List UInt8×List Fld×List Mth×Int×Unit) (fun p=>(⟨p.1,p.2.1,p.2.2.1,p.2.2.2.1,p.2.2.2.2.1⟩:Dcl)) Tryz.underlying53 (by kernel_rfl)
  (opensF_cons (sz:=1) rfl (by kernel_rfl) (opens_int Tryz.underlying3) (opensF_cons (sz:=1) rfl (by kernel_rfl) (opens_string Tryz.underlying9)
   (opensF_cons (sz:=1) rfl (by kernel_rfl) (opens_slice (esz:=5) (cells:=Fld.c) (ok:=fun _=>True) Tryz.underlying50 (by kernel_rfl) (of_decide_eq_true rfl) (fun _=>rfl) opFld)
   (opensF_cons (sz:=1) rfl (by kernel_rfl) (opens_slice (esz:=5) (cells:=Mth.c) (ok:=fun _=>True) Tryz.underlying51 (by kernel_rfl) (of_decide_eq_true rfl) (fun _=>rfl) opMth)
   (opensF_cons (sz:=1) rfl (by kernel_rfl) (opens_int Tryz.underlying3) opensF_nil))))) (fun _=>rfl) (fun _ _=>trivial)
theorem bVal:∀ N,OpensB N Tryz.prog 26 Val.c (fun _=>True)
 | 0=>OpensB.zero
 | N+1 =>
  opensB_struct (α:=Int×Int×List UInt8×List Int×List Val×Unit) (fun p=>(⟨p.1,p.2.1,p.2.2.1,p.2.2.2.1,p.2.2.2.2.1⟩:Val)) Tryz.underlying26 (by kernel_rfl)
   (opensFB_cons (sz:=1) rfl (by kernel_rfl) ((opens_int Tryz.underlying3).toB N) (opensFB_cons (sz:=1) rfl (by kernel_rfl) ((opens_int Tryz.underlying2).toB N)
    (opensFB_cons (sz:=1) rfl (by kernel_rfl) ((opens_string Tryz.underlying9).toB N)
    (opensFB_cons (sz:=1) rfl (by kernel_rfl) ((opens_slice (esz:=1) (cells:=INTc) (ok:=fun _=>True) Tryz.underlying23 (by kernel_rfl) (of_decide_eq_true rfl) (fun _=>rfl) (opens_map (opens_int Tryz.underlying3) (fun _ _=>trivial))).toB N)
    (opensFB_cons (sz:=1) rfl (by kernel_rfl) ((opensB_slice (esz:=5) (cells:=Val.c) (ok:=fun _=>True) Tryz.underlying24 (by kernel_rfl) (of_decide_eq_true rfl) (fun _=>rfl) (bVal N)).mono (Nat.le_succ N)) opensFB_nil)))))
   (fun x G ys h=>by
    obtain ⟨k,nu,tx,tg,it,u⟩:=x
    simp only [List.cons_append,List.nil_append,Val.c,RepIL] at h ⊢
    obtain ⟨z1,t1,e1,g1,h1,z2,t2,e2,g2,h2,z3,t3,e3,g3,h3,z4,t4,e4,g4,h4,z5,t5,e5,g5,h5,e6⟩:=h
    exact ⟨z1,t1,e1,g1,h1,z2,t2,e2,g2,h2,z3,t3,e3,g3,h3,z4,t4,e4,g4,h4,z5,t5,e5,repI_rows (fun i hi=>(Val.rows_eq _ i hi).symm) g5,h5,e6⟩) (fun _ _=>trivial)
theorem opVal:OpensT Tryz.prog 26 Val.c (fun _=>True):=OpensT.ofB bVal
theorem opDcls:OpensV Tryz.prog 22 (fun p:List Dcl=>SL 5 Dcl.c p) (fun l=>l.length≤maxLen∧∀ i,i<l.length→True) :=
 opensV_slice (esz:=5) (cells:=Dcl.c) (ok:=fun _=>True) Tryz.underlying22 (by kernel_rfl) (of_decide_eq_true rfl) (fun _=>rfl) opDcl
theorem known {W : World} {laid : List (String × DataW Unit)} (hsh : W.ShapedOpen Tryz.prog) (h : laidMet Tryz.prog laid W) (h1 : ("unicode/utf8.acceptRanges", Rows.laid_unicode_utf8_acceptRanges) ∈ laid) (h2 : ("unicode/utf8.first", Rows.laid_unicode_utf8_first) ∈ laid) : ∃ m, ∀ A ∈ [glbA m, tabA], A.ok (memG W) W := by
 obtain ⟨m,hm⟩:∃ m,W.cell? ⟨0,0,none⟩=some (.int .i64 m) :=
  Go.Proofs.cell_of_shapedOpen_int (zero:=#[.int .i64 0]) (t:=3) hsh (of_decide_eq_true (by kernel_rfl)) (by kernel_rfl) rfl (by kernel_rfl) (by kernel_rfl) Tryz.underlying3
 have ht:=tabs h h1 h2
 refine ⟨m,fun A hA=>?_⟩
 rcases List.mem_cons.1 hA with rfl|hA
 ·exact hm
 ·rw [List.mem_singleton.1 hA]
  exact fun b o v hv=>utfT_of ht b o v hv
end Go.Proofs.YtgmdpfoccnalnaaGreatDoor

namespace Go.Proofs
open Go.Sy Go.Lib

def jdgC (o n:Nat) (d:Dcl):List AV:=PT o 0::PT n 0::Dcl.c d
noncomputable def rowE (R:List Fld) (d:Dcl) (f:Fld):Int :=
 if hasJ R f.tag=true then (bif sameT f.ty (fldJ R f.tag).ty then 0 else 8) else if d.kind=1∧f.ty.kind=9 then 0 else 9
def freshE (R:List Fld) (d:Dcl) (f:Fld):Int :=
 if hasJ R f.tag=false∧d.kind=1∧f.ty.kind≠9 then 9 else 0

def CJ1 (n:Nat) (l:List Dcl) (g:Fld) (b15 b16:Bool):List Ch :=
 (bif b15 then [.box 5 60 (bif b16 then Fld.c g else [I64 0,.s [],I64 0,.s [],.v (.slice none 0 0)])] else [])++[.abs (dscS n l)]
def PJ1:Pl:=⟨[[],[],[],[],[],[],[],[],[],[],[],[],[],[],[],[],[15,11],[]],[11,15,16],[(15,5)],[]⟩

theorem jrow_A (o n:Nat) (l:List Dcl) (hP:Prep l) (hW:WellL l) (d:Dcl) (f:Fld) (hf:FewT f.ty) :
  FnA Tryz.prog 46 [.cp (jdgC o n d),.agg (Fld.c f)] [dscS n l] (fun r cs'=>r=I64 (rowE (rowsU l d.name) d f)∧cs'=[dscS n l]):=by
 refine fnA Tryz.func46 fun X=>?_
 repeat (first|refine sc rfl ?_|refine so rfl ?_)
 refine C_le _ (Le.freezebox 3 rfl rfl rfl) ?_
 refine C_drawM PJ1 (fun L=>CJ1 n l (fldJ (rowsU l d.name) f.tag) (L 15) (L 16)) rfl (by kernel_rfl) (fun L L' h=>by show CJ1 n l (fldJ (rowsU l d.name) f.tag) (L 15) (L 16)=CJ1 n l (fldJ (rowsU l d.name) f.tag) (L' 15) (L' 16);rw [h 15 (by decide),h 16 (by decide)]) rfl ?_
 repeat (refine sm rfl ⟨trivial,?_⟩)
 refine SM (.tup [.agg (Fld.c (fldJ (rowsU l d.name) f.tag)),B (hasJ (rowsU l d.name) f.tag)]) rfl (fun L h1 h2 h3=>?_) ?_
 ·show StepX _ _ _ _ _ (CJ1 n l (fldJ (rowsU l d.name) f.tag) (L 15) (L 16)) (CJ1 n l (fldJ (rowsU l d.name) f.tag) (L 15) (L 16)) _ _ _
  rw [h2 16 (show (11:Nat)∈PJ1.anc 16 by decide)]
  cases L 15
  ·exact X_callA [0] (DRow_F n l hP hW d.name f.tag) rfl rfl rfl rfl rfl
  ·exact (X_callA [1] (DRow_F n l hP hW d.name f.tag) rfl rfl rfl rfl rfl).perm (.swap _ _ _)
 repeat (refine sm rfl ⟨trivial,?_⟩)
 refine SM (.bp 5 0) rfl (fun L h1 h2 h3=>?_) ?_
 ·show StepX _ _ _ _ _ (CJ1 n l (fldJ (rowsU l d.name) f.tag) (L 15) (L 16)) (CJ1 n l (fldJ (rowsU l d.name) f.tag) true (L 16)) _ _ _
  rw [show L 15=false from h3,h2 16 (show (15:Nat)∈PJ1.anc 16 by decide)]
  exact X_alloc rfl rfl rfl rfl (show ((15,5):Nat×Nat)∈PJ1.cre by decide) rfl rfl rfl
 refine SM .bad rfl (fun L h1 h2 h3=>?_) ?_
 ·show StepX _ _ _ _ _ (CJ1 n l (fldJ (rowsU l d.name) f.tag) (L 15) (L 16)) (CJ1 n l (fldJ (rowsU l d.name) f.tag) (L 15) true) _ _ _
  rw [show L 16=false from h3,h1 15 (show (15:Nat)∈PJ1.anc 16 by decide)]
  exact X_storeK rfl rfl rfl rfl rfl rfl rfl rfl rfl
 repeat (refine sm rfl ⟨trivial,?_⟩)
 refine sm rfl ?_
 show SymC _ _ _ ⟨_,[.box 5 60 (Fld.c (fldJ (rowsU l d.name) f.tag)),.abs (dscS n l)]⟩ _
 cases hh:hasJ (rowsU l d.name) f.tag with
 | true =>
  repeat (first|refine sc rfl ?_|refine so rfl ?_)
  refine C_false rfl rfl ?_
  repeat (first|refine sc rfl ?_|refine so rfl ?_)
  refine C_false rfl rfl ?_
  repeat (first|refine sc rfl ?_|refine so rfl ?_)
  refine O_cP (CType_c _ f.ty (fldJ (rowsU l d.name) f.tag).ty (Nat.le_refl _) hf) fun r hr=>?_
  subst hr
  repeat refine so rfl ?_
  cases hs:sameT f.ty (fldJ (rowsU l d.name) f.tag).ty with
  | true =>
   refine C_false rfl rfl ?_
   repeat (first|refine sc rfl ?_|refine so rfl ?_)
   exact ⟨_,[_],_,rfl,pickA_perm (is:=[1]) (As:=[_]) rfl,rfl,by rw [rowE,if_pos hh,hs];rfl,rfl⟩
  | false =>
   refine C_true rfl rfl ?_
   repeat (first|refine sc rfl ?_|refine so rfl ?_)
   exact ⟨_,[_],_,rfl,pickA_perm (is:=[1]) (As:=[_]) rfl,rfl,by rw [rowE,if_pos hh,hs];rfl,rfl⟩
 | false =>
  repeat (first|refine sc rfl ?_|refine so rfl ?_)
  refine O_case 33 rfl (fun k1=>?_) (fun k1=>?_)<;>simp only [pL] at k1
  ·repeat refine so rfl ?_
   refine O_cP (optional_c f) fun r hr=>?_
   subst hr
   repeat refine so rfl ?_
   refine C_if rfl (fun m1=>?_) (fun m1=>?_)<;>simp only [pL] at m1
   ·repeat (first|refine sc rfl ?_|refine so rfl ?_)
    exact ⟨_,[_],_,rfl,pickA_perm (is:=[1]) (As:=[_]) rfl,rfl,by rw [rowE,hh,if_neg (by decide),if_pos ⟨k1,m1⟩],rfl⟩
   ·repeat (first|refine sc rfl ?_|refine so rfl ?_)
    refine C_true rfl rfl ?_
    repeat (first|refine sc rfl ?_|refine so rfl ?_)
    exact ⟨_,[_],_,rfl,pickA_perm (is:=[1]) (As:=[_]) rfl,rfl,by rw [rowE,hh,if_neg (by decide),if_neg (fun h=>m1 h.2)],rfl⟩
  ·repeat refine so rfl ?_
   refine C_false rfl rfl ?_
   repeat (first|refine sc rfl ?_|refine so rfl ?_)
   refine C_true rfl rfl ?_
   repeat (first|refine sc rfl ?_|refine so rfl ?_)
   exact ⟨_,[_],_,rfl,pickA_perm (is:=[1]) (As:=[_]) rfl,rfl,by rw [rowE,hh,if_neg (by decide),if_neg (fun h=>k1 h.1)],rfl⟩

theorem jfresh_A (o n:Nat) (l:List Dcl) (hP:Prep l) (hW:WellL l) (d:Dcl) (f:Fld) :
  FnA Tryz.prog 49 [.cp (jdgC o n d),.agg (Fld.c f)] [dscS o l] (fun r cs'=>r=I64 (freshE (rowsU l d.name) d f)∧cs'=[dscS o l]):=by
 refine fnA Tryz.func49 fun X=>?_
 repeat (first|refine sc rfl ?_|refine so rfl ?_)
 refine C_le _ (Le.freezebox 3 rfl rfl rfl) ?_
 refine C_drawM PJ1 (fun L=>CJ1 o l (fldJ (rowsU l d.name) f.tag) (L 15) (L 16)) rfl (by kernel_rfl) (fun L L' h=>by show CJ1 o l (fldJ (rowsU l d.name) f.tag) (L 15) (L 16)=CJ1 o l (fldJ (rowsU l d.name) f.tag) (L' 15) (L' 16);rw [h 15 (by decide),h 16 (by decide)]) rfl ?_
 repeat (refine sm rfl ⟨trivial,?_⟩)
 refine SM (.tup [.agg (Fld.c (fldJ (rowsU l d.name) f.tag)),B (hasJ (rowsU l d.name) f.tag)]) rfl (fun L h1 h2 h3=>?_) ?_
 ·show StepX _ _ _ _ _ (CJ1 o l (fldJ (rowsU l d.name) f.tag) (L 15) (L 16)) (CJ1 o l (fldJ (rowsU l d.name) f.tag) (L 15) (L 16)) _ _ _
  rw [h2 16 (show (11:Nat)∈PJ1.anc 16 by decide)]
  cases L 15
  ·exact X_callA [0] (DRow_F o l hP hW d.name f.tag) rfl rfl rfl rfl rfl
  ·exact (X_callA [1] (DRow_F o l hP hW d.name f.tag) rfl rfl rfl rfl rfl).perm (.swap _ _ _)
 repeat (refine sm rfl ⟨trivial,?_⟩)
 refine SM (.bp 5 0) rfl (fun L h1 h2 h3=>?_) ?_
 ·show StepX _ _ _ _ _ (CJ1 o l (fldJ (rowsU l d.name) f.tag) (L 15) (L 16)) (CJ1 o l (fldJ (rowsU l d.name) f.tag) true (L 16)) _ _ _
  rw [show L 15=false from h3,h2 16 (show (15:Nat)∈PJ1.anc 16 by decide)]
  exact X_alloc rfl rfl rfl rfl (show ((15,5):Nat×Nat)∈PJ1.cre by decide) rfl rfl rfl
 refine SM .bad rfl (fun L h1 h2 h3=>?_) ?_
 ·show StepX _ _ _ _ _ (CJ1 o l (fldJ (rowsU l d.name) f.tag) (L 15) (L 16)) (CJ1 o l (fldJ (rowsU l d.name) f.tag) (L 15) true) _ _ _
  rw [show L 16=false from h3,h1 15 (show (15:Nat)∈PJ1.anc 16 by decide)]
  exact X_storeK rfl rfl rfl rfl rfl rfl rfl rfl rfl
 repeat (refine sm rfl ⟨trivial,?_⟩)
 refine sm rfl ?_
 show SymC _ _ _ ⟨_,[.box 5 60 (Fld.c (fldJ (rowsU l d.name) f.tag)),.abs (dscS o l)]⟩ _
 cases hh:hasJ (rowsU l d.name) f.tag with
 | true =>
  repeat (first|refine sc rfl ?_|refine so rfl ?_)
  refine C_false rfl rfl ?_
  repeat (first|refine sc rfl ?_|refine so rfl ?_)
  exact ⟨_,[_],_,rfl,pickA_perm (is:=[1]) (As:=[_]) rfl,rfl,by rw [freshE,hh,if_neg (fun h=>by cases h.1)],rfl⟩
 | false =>
  repeat (first|refine sc rfl ?_|refine so rfl ?_)
  refine O_case 32 rfl (fun k1=>?_) (fun k1=>?_)<;>simp only [pL] at k1
  ·repeat refine so rfl ?_
   refine O_cP (optional_c f) fun r hr=>?_
   subst hr
   repeat refine so rfl ?_
   refine C_if rfl (fun m1=>?_) (fun m1=>?_)<;>simp only [pL] at m1
   ·repeat (first|refine sc rfl ?_|refine so rfl ?_)
    exact ⟨_,[_],_,rfl,pickA_perm (is:=[1]) (As:=[_]) rfl,rfl,by rw [freshE,hh,if_pos ⟨rfl,k1,m1⟩],rfl⟩
   ·repeat (first|refine sc rfl ?_|refine so rfl ?_)
    exact ⟨_,[_],_,rfl,pickA_perm (is:=[1]) (As:=[_]) rfl,rfl,by rw [freshE,hh,if_neg (fun h=>h.2.2 m1)],rfl⟩
  ·repeat refine so rfl ?_
   refine C_false rfl rfl ?_
   repeat (first|refine sc rfl ?_|refine so rfl ?_)
   exact ⟨_,[_],_,rfl,pickA_perm (is:=[1]) (As:=[_]) rfl,rfl,by rw [freshE,hh,if_neg (fun h=>k1 h.2.1)],rfl⟩
end Go.Proofs

namespace Go.Sy
open Go.RowKit
section
variable {P:Program} {T:Tab} {X:Ctx P T} {n:Nat} {e:Env} {st:St} {a:Act} {w:World} {ops:Array Oper} {K:St→Prop}

theorem X_makeBound {p:Pl} {f:FuncId} {fs:Array Operand} {favs:List AV} {d:Nat} {ty:TypeId} {pos:String} {aft:Array Edge} {gd:Option (Nat×Bool)} {j:Nat} {Si:List (Nat×AV)} {c:List Ch}
  (hg:guardA ops ⟨Si,c⟩ ⟨some d,.makeFunc (.func f) fs #[],ty,pos,aft,gd⟩=some true) (ha:opds Si fs.toList=some favs) (himm:AV.imm.immL favs=true) (hd:Nat.blt d n=true) :
  StepX X n ops p Si c c j ⟨some d,.makeFunc (.func f) fs #[],ty,pos,aft,gd⟩ (.p (bndRP f favs)) :=
 StepX.val hg hd (fun e a w S r r'=>by
  have h1:=RepT.toI favs himm (opds_sound r' ha)
  have hrun:(execOp a.eval ⟨some d,.makeFunc (.func f) fs #[],ty,pos,aft,gd⟩).run P w=.ok (.value (.func (.func f) (fs.map a.eval) #[])) w:=by
   simp [execOp,Instr.makeFunc]
  exact ⟨_,w,e,hrun,r,by simp only [Rep];exact ⟨_,rfl,by rw [map_eval];exact h1⟩⟩)
end
end Go.Sy

namespace Go.Proofs
open Go.Sy Go.Lib

def mthL (l:List Dcl) (nm x:List UInt8):Option Mth:=match fndL nm l with
 | none=>none
 | some j=>if (l.getD j default).kind=4 then (l.getD j default).methods.find? (fun m=>m.name == x) else none
theorem find_none_of {M:List Mth} {x:List UInt8} (h:∀ j,j<M.length→(M.getD j default).name≠x):M.find? (fun m=>m.name == x)=none :=
 List.find?_eq_none.2 (fun m hm=>by
  obtain ⟨i,hi,rfl⟩:=List.mem_iff_getElem.1 hm
  have:=h i hi
  rw [getD_at hi] at this
  simpa using this)
theorem find_some_of {M:List Mth} {x:List UInt8} {i:Nat} (hi:i<M.length) (h:∀ j,j<i→(M.getD j default).name≠x) (hx:(M.getD i default).name=x):M.find? (fun m=>m.name == x)=some (M.getD i default):=by
 rw [List.find?_eq_some_iff_getElem]
 refine ⟨by simpa using hx,i,hi,(getD_at hi).symm,fun j hj=>?_⟩
 have:=h j hj
 rw [getD_at (by omega)] at this
 simpa using this
set_option maxHeartbeats 1600000 in
theorem NMethod_c (l:List Dcl) (hl:FewL l) (nm x:List UInt8):FnP Tryz.prog 124 [SL 5 Dcl.c l,.s nm,.s x] (·=.tup [.agg (Mth.c ((mthL l nm x).getD default)),B (mthL l nm x).isSome]):=by
 refine fnP Tryz.func124 fun X=>?_
 have h0:=hl.1
 repeat (first|refine sc rfl ?_|refine so rfl ?_)
 refine O_cP (Of_w l hl.1) fun r hr=>?_
 subst hr
 repeat refine so rfl ?_
 refine O_cP (Find_c l nm) fun r hr=>?_
 subst hr
 unfold mthL
 cases hf:fndL nm l with
 | none =>
  repeat (first|refine sc rfl ?_|refine so rfl ?_)
  refine C_true rfl rfl ?_
  repeat (first|refine sc rfl ?_|refine so rfl ?_)
  exact ⟨_,rfl,rfl,rfl⟩
 | some j =>
  have hj:=fndL_lt hf
  have hm:=(hl.2 j hj).m
  have e1:fndI nm l=(j:Int):=by unfold fndI;rw [hf];rfl
  rw [e1]
  simp only [Option.isSome_some]
  repeat (first|refine sc rfl ?_|refine so rfl ?_)
  refine ⟨by omega,?_⟩
  rw [Int.toNat_natCast]
  repeat refine so rfl ?_
  refine C_if rfl (fun m1=>?_) (fun m1=>?_)<;>simp only [pL] at m1
  ·rw [if_neg m1]
   repeat (first|refine sc rfl ?_|refine so rfl ?_)
   exact ⟨_,rfl,rfl,rfl⟩
  ·rw [if_pos m1]
   repeat (first|refine sc rfl ?_|refine so rfl ?_)
   refine ⟨by omega,?_⟩
   rw [Int.toNat_natCast]
   repeat (first|refine sc rfl ?_|refine so rfl ?_)
   generalize (l.getD j default).methods=M at *
   refine C_loop (fun i:Nat=>⟨[(2,.s x),(6,.bp 6 0),(34,SL 5 Mth.c M),(35,I64 (M.length:Nat)),(36,I64 (i:Nat))],[.box 6 127 [I64 0,.s [],.s [],.s [],B false]]⟩) (fun i=>i≤M.length∧∀ j,j<i→(M.getD j default).name≠x) (fun i=>M.length-i) 0 ⟨Nat.zero_le _,fun j hj=>absurd hj (Nat.not_lt_zero _)⟩ (Le.sub [6] ⟨rfl,rfl,rfl,rfl,rfl,trivial⟩ rfl) ?_
   rintro i ⟨hi,hall⟩
   repeat (first|refine sc rfl ?_|refine so rfl ?_)
   refine C_if rfl (fun m2=>?_) (fun m2=>?_)<;>simp only [pL] at m2
   ·have hil:i<M.length:=by omega
    repeat (first|refine sc rfl ?_|refine so rfl ?_)
    refine ⟨by omega,?_⟩
    rw [Int.toNat_natCast]
    repeat (first|refine sc rfl ?_|refine so rfl ?_)
    refine C_if rfl (fun m3=>?_) (fun m3=>?_)<;>simp only [pL] at m3
    ·rw [find_some_of hil hall m3]
     repeat (first|refine sc rfl ?_|refine so rfl ?_)
     exact ⟨_,rfl,rfl,rfl⟩
    ·repeat (first|refine sc rfl ?_|refine so rfl ?_)
     rw [w64 (x:=(i:Int)+1) (by omega) (by omega)]
     refine ⟨i+1,⟨hil,fun j hj=>?_⟩,by omega,Le.sub [6] ⟨rfl,rfl,rfl,rfl,rfl,trivial⟩ rfl⟩
     by_cases hji:j<i
     ·exact hall j hji
     ·obtain rfl:j=i:=by omega
      exact m3
   ·obtain rfl:i=M.length:=by omega
    rw [find_none_of hall]
    repeat (first|refine sc rfl ?_|refine so rfl ?_)
    exact ⟨_,rfl,rfl,rfl⟩
theorem DMethod_A (b:Nat) (l:List Dcl) (hl:FewL l) (nm x:List UInt8) (q:Option (List (List Fld))):FnA Tryz.prog 90 [PT b 0,.s nm,.s x] [dsc b l q] (fun r cs'=>r=.tup [.agg (Mth.c ((mthL l nm x).getD default)),B (mthL l nm x).isSome]∧cs'=[dsc b l q]):=by
 refine fnA Tryz.func90 fun X=>?_
 have hd:∃ o1 o2 o3 t m0,dsc b l q=dscA b l o1 o2 o3 t m0:=by cases q<;>exact ⟨_,_,_,_,_,rfl⟩
 obtain ⟨o1,o2,o3,t,m0,hd⟩:=hd
 rw [hd]
 repeat (first|refine sc rfl ?_|refine so rfl ?_)
 refine O_Xd (X_ptrnil Tryz.underlying32 rfl rfl rfl) ?_
 repeat refine so rfl ?_
 refine C_false rfl rfl ?_
 repeat (first|refine sc rfl ?_|refine so rfl ?_)
 refine O_loadP 1 (A:=dscA b l o1 o2 o3 t m0) (reads_box 0) rfl rfl rfl rfl rfl rfl ?_
 repeat refine so rfl ?_
 refine O_cP (NMethod_c l hl nm x) fun r hr=>?_
 subst hr
 repeat (first|refine sc rfl ?_|refine so rfl ?_)
 exact ⟨_,[_],_,rfl,pickA_perm (is:=[1]) (As:=[_]) rfl,rfl,rfl,rfl⟩
theorem DMethod_S (b:Nat) (l:List Dcl) (hl:FewL l) (nm x:List UInt8):FnA Tryz.prog 90 [PT b 0,.s nm,.s x] [dscS b l] (fun r cs'=>r=.tup [.agg (Mth.c ((mthL l nm x).getD default)),B (mthL l nm x).isSome]∧cs'=[dscS b l]) :=
 FnA_ex (φ:=fun r=>r=.tup [.agg (Mth.c ((mthL l nm x).getD default)),B (mthL l nm x).isSome]) (fun q hq=>(DMethod_A b l hl nm x q).mono (fun r cs' ⟨h1,h2⟩=>⟨h1,q,hq,h2⟩)) (DMethod_A b l hl nm x none).1

def mthV (m:Mth):Array Value:=#[.int .i64 m.tag,S m.name,S m.fin,S m.fout,.bool m.oneWay]
theorem rep_mth (m:Mth) (e:Env) (ys:List Value) (h:RepL e (Mth.c m) ys):ys=(mthV m).toList:=by
 simp only [Mth.c,RepL,Rep] at h
 obtain ⟨z1,t1,rfl,rfl,_,z2,t2,rfl,rfl,_,z3,t3,rfl,rfl,_,z4,t4,rfl,rfl,_,z5,t5,rfl,rfl,_,rfl⟩:=h
 rfl
theorem eq_mth (m k:Mth):∃ b,∀ w,(Op.equalIn 10000 127 (.agg (mthV m)) (.agg (mthV k))).run Tryz.prog w=.ok b w:=by
 have p0:∀ m w,(part 3 (mthV m) 0).run Tryz.prog w=.ok (.int .i64 m.tag) w:=fun m w=>by simp [part,isAgg,run_underlying Tryz.underlying3,mthV]
 have p1:∀ m w,(part 9 (mthV m) 1).run Tryz.prog w=.ok (S m.name) w:=fun m w=>by simp [part,isAgg,run_underlying Tryz.underlying9,mthV]
 have p2:∀ m w,(part 9 (mthV m) 2).run Tryz.prog w=.ok (S m.fin) w:=fun m w=>by simp [part,isAgg,run_underlying Tryz.underlying9,mthV]
 have p3:∀ m w,(part 9 (mthV m) 3).run Tryz.prog w=.ok (S m.fout) w:=fun m w=>by simp [part,isAgg,run_underlying Tryz.underlying9,mthV]
 have p4:∀ m w,(part 4 (mthV m) 4).run Tryz.prog w=.ok (.bool m.oneWay) w:=fun m w=>by simp [part,isAgg,run_underlying Tryz.underlying4,mthV]
 have e0:∀ a b w,(Op.equalIn 9999 3 (.int .i64 a) (.int .i64 b)).run Tryz.prog w=.ok (a == b) w:=fun a b w=>by rw [run_equalIn_int w 9998 3 .i64 .i64 _ _ Tryz.underlying3]
 have e1:∀ a b,∃ c,∀ w,(Op.equalIn 9999 9 (S a) (S b)).run Tryz.prog w=.ok c w:=fun a b=>⟨_,fun w=>by unfold S;rw [run_equalIn_string w 9998 9 _ _ Tryz.underlying9]⟩
 have e2:∀ a b w,(Op.equalIn 9999 4 (.bool a) (.bool b)).run Tryz.prog w=.ok (a == b) w:=fun a b w=>by rw [run_equalIn_bool' w 9998 4 _ _ Tryz.underlying4]
 obtain ⟨c0,f0⟩:∃ c,∀ w,(Op.equalIn 9999 3 (.int .i64 m.tag) (.int .i64 k.tag)).run Tryz.prog w=.ok c w:=⟨_,fun w=>e0 _ _ w⟩
 obtain ⟨c4,f4⟩:∃ c,∀ w,(Op.equalIn 9999 4 (.bool m.oneWay) (.bool k.oneWay)).run Tryz.prog w=.ok c w:=⟨_,fun w=>e2 _ _ w⟩
 clear e0 e2
 obtain ⟨c1,f1⟩:=e1 m.name k.name
 obtain ⟨c2,f2⟩:=e1 m.fin k.fin
 obtain ⟨c3,f3⟩:=e1 m.fout k.fout
 have hx:∀ w,(Op.equalIn 10000 127 (.agg (mthV m)) (.agg (mthV k))).run Tryz.prog w=.ok (c0&&(c1&&(c2&&(c3&&c4)))) w:=fun w=>by
  rw [run_equalIn_struct w 9999 127 _ _ Tryz.underlying127 Tryz.stoodInHeld127]
  unfold Program.fieldsOf
  rw [Tryz.underlying127]
  simp only [Op.eqFields]
  rw [if_pos (by decide),if_pos (by decide),if_pos (by decide),if_pos (by decide),if_pos (by decide)]
  simp only [Sem.run_bind,p0,p1,p2,p3,p4,f0,f1,f2,f3,f4,Result.andThen_ok]
  cases c0<;>cases c1<;>cases c2<;>cases c3<;>cases c4<;>simp [Sem.run_bind,p0,p1,p2,p3,p4,f0,f1,f2,f3,f4]
 exact ⟨_,hx⟩
def CJM (n:Nat) (l:List Dcl) (g:Mth) (b15 b16:Bool):List Ch :=
 (bif b15 then [.box 5 127 (bif b16 then Mth.c g else [I64 0,.s [],.s [],.s [],B false])] else [])++[.abs (dscS n l)]
theorem jmth_tot (o n:Nat) (l:List Dcl) (hl:FewL l) (d:Dcl) (m:Mth) :
  FnA Tryz.prog 48 [.cp (jdgC o n d),.agg (Mth.c m)] [dscS n l] (fun r cs'=>∃ e,r=I64 e∧cs'=[dscS n l]):=by
 refine fnA Tryz.func48 fun X=>?_
 repeat (first|refine sc rfl ?_|refine so rfl ?_)
 refine C_le _ (Le.freezebox 3 rfl rfl rfl) ?_
 refine C_drawM PJ1 (fun L=>CJM n l ((mthL l d.name m.name).getD default) (L 15) (L 16)) rfl (by kernel_rfl) (fun L L' h=>by show CJM n l ((mthL l d.name m.name).getD default) (L 15) (L 16)=CJM n l ((mthL l d.name m.name).getD default) (L' 15) (L' 16);rw [h 15 (by decide),h 16 (by decide)]) rfl ?_
 repeat (refine sm rfl ⟨trivial,?_⟩)
 refine SM (.tup [.agg (Mth.c ((mthL l d.name m.name).getD default)),B (mthL l d.name m.name).isSome]) rfl (fun L h1 h2 h3=>?_) ?_
 ·show StepX _ _ _ _ _ (CJM n l ((mthL l d.name m.name).getD default) (L 15) (L 16)) (CJM n l ((mthL l d.name m.name).getD default) (L 15) (L 16)) _ _ _
  rw [h2 16 (show (11:Nat)∈PJ1.anc 16 by decide)]
  cases L 15
  ·exact X_callA [0] (DMethod_S n l hl d.name m.name) rfl rfl rfl rfl rfl
  ·exact (X_callA [1] (DMethod_S n l hl d.name m.name) rfl rfl rfl rfl rfl).perm (.swap _ _ _)
 repeat (refine sm rfl ⟨trivial,?_⟩)
 refine SM (.bp 5 0) rfl (fun L h1 h2 h3=>?_) ?_
 ·show StepX _ _ _ _ _ (CJM n l ((mthL l d.name m.name).getD default) (L 15) (L 16)) (CJM n l ((mthL l d.name m.name).getD default) true (L 16)) _ _ _
  rw [show L 15=false from h3,h2 16 (show (15:Nat)∈PJ1.anc 16 by decide)]
  exact X_alloc rfl rfl rfl rfl (show ((15,5):Nat×Nat)∈PJ1.cre by decide) rfl rfl rfl
 refine SM .bad rfl (fun L h1 h2 h3=>?_) ?_
 ·show StepX _ _ _ _ _ (CJM n l ((mthL l d.name m.name).getD default) (L 15) (L 16)) (CJM n l ((mthL l d.name m.name).getD default) (L 15) true) _ _ _
  rw [show L 16=false from h3,h1 15 (show (15:Nat)∈PJ1.anc 16 by decide)]
  exact X_storeK rfl rfl rfl rfl rfl rfl rfl rfl rfl
 repeat (refine sm rfl ⟨trivial,?_⟩)
 refine sm rfl ?_
 show SymC _ _ _ ⟨_,[.box 5 127 (Mth.c ((mthL l d.name m.name).getD default)),.abs (dscS n l)]⟩ _
 cases hh:(mthL l d.name m.name).isSome with
 | false =>
  repeat (first|refine sc rfl ?_|refine so rfl ?_)
  refine C_true rfl rfl ?_
  repeat (first|refine sc rfl ?_|refine so rfl ?_)
  exact ⟨_,[_],_,rfl,pickA_perm (is:=[1]) (As:=[_]) rfl,rfl,⟨_,rfl,rfl⟩⟩
 | true =>
  repeat (first|refine sc rfl ?_|refine so rfl ?_)
  refine C_false rfl rfl ?_
  repeat (first|refine sc rfl ?_|refine so rfl ?_)
  obtain ⟨b,hb⟩:=eq_mth m ((mthL l d.name m.name).getD default)
  refine O_Xd (X_aggC (us:=mthV m) (vs:=mthV ((mthL l d.name m.name).getD default)) (b:=b) (op:=.neq) (fun e ys h=>rep_mth _ e ys h) (fun e ys h=>rep_mth _ e ys h) hb Tryz.eqGuardType127 (.inr rfl) rfl rfl rfl rfl) ?_
  repeat refine so rfl ?_
  cases b with
  | true =>
   refine C_false rfl rfl ?_
   repeat (first|refine sc rfl ?_|refine so rfl ?_)
   exact ⟨_,[_],_,rfl,pickA_perm (is:=[1]) (As:=[_]) rfl,rfl,⟨_,rfl,rfl⟩⟩
  | false =>
   refine C_true rfl rfl ?_
   repeat (first|refine sc rfl ?_|refine so rfl ?_)
   exact ⟨_,[_],_,rfl,pickA_perm (is:=[1]) (As:=[_]) rfl,rfl,⟨_,rfl,rfl⟩⟩
end Go.Proofs

namespace Go.Proofs
open Go.Sy Go.Lib

def firstE (E:Fld→Int):List Fld→Int
 | []=>0
 | f::R=>if E f=0 then firstE E R else E f
theorem firstE_all {E:Fld→Int}:∀ {R:List Fld},firstE E R=0→∀ f,f∈R→E f=0
 | [],_,f,hf=>by cases hf
 | g::R,h,f,hf=>by
  unfold firstE at h
  by_cases hg:E g=0
  ·rw [if_pos hg] at h
   rcases List.mem_cons.1 hf with rfl|hf
   ·exact hg
   ·exact firstE_all h f hf
  ·rw [if_neg hg] at h;exact absurd h hg
theorem firstE_drop {E:Fld→Int}:∀ {R:List Fld} {i:Nat},i≤R.length→(∀ j,j<i→E (R.getD j default)=0)→firstE E R=firstE E (R.drop i)
 | R,0,_,_=>rfl
 | [],i+1,h,_=>by cases h
 | g::R,i+1,h,hz=>by
  have h0:E g=0:=hz 0 (by omega)
  rw [firstE,if_pos h0,List.drop_succ_cons]
  exact firstE_drop (by simpa using h) (fun j hj=>hz (j+1) (by omega))
theorem firstE_at {E:Fld→Int} {R:List Fld} {i:Nat} (hi:i<R.length) (hz:∀ j,j<i→E (R.getD j default)=0) (hn:¬ E (R.getD i default)=0):firstE E R=E (R.getD i default):=by
 rw [firstE_drop (Nat.le_of_lt hi) hz,List.drop_eq_getElem_cons hi,firstE,← getD_at hi,if_neg hn]
theorem firstE_end {E:Fld→Int} {R:List Fld} (hz:∀ j,j<R.length→E (R.getD j default)=0):firstE E R=0:=by
 rw [firstE_drop (Nat.le_refl _) hz,List.drop_length,firstE]

theorem first_G (A:Abs) (R:List Fld) (hl:R.length≤1000) (g:FuncId) (fs:List AV) (E:Fld→Int) (h:∀ f,f∈R→FnA Tryz.prog g (fs++[.agg (Fld.c f)]) [A] (fun r cs'=>r=I64 (E f)∧cs'=[A])) :
  FnA Tryz.prog 45 [SL 5 Fld.c R,.p (bndRP g fs)] [A] (fun r cs'=>r=I64 (firstE E R)∧cs'=[A]):=by
 refine fnA Tryz.func45 fun X=>?_
 repeat (first|refine sc rfl ?_|refine so rfl ?_)
 refine C_loop (fun i:Nat=>⟨[(1,.p (bndRP g fs)),(8,SL 5 Fld.c R),(9,I64 (R.length:Nat)),(10,I64 (i:Nat))],[.abs A]⟩) (fun i=>i≤R.length∧∀ j,j<i→E (R.getD j default)=0) (fun i=>R.length-i) 0 ⟨Nat.zero_le _,fun j hj=>absurd hj (Nat.not_lt_zero _)⟩ (Le.pick [0] ⟨rfl,rfl,rfl,rfl,trivial⟩ rfl) ?_
 rintro i ⟨hi,hall⟩
 repeat (first|refine sc rfl ?_|refine so rfl ?_)
 refine C_if rfl (fun m1=>?_) (fun m1=>?_)<;>simp only [pL] at m1
 ·have hil:i<R.length:=by omega
  repeat (first|refine sc rfl ?_|refine so rfl ?_)
  refine ⟨by omega,?_⟩
  rw [Int.toNat_natCast]
  repeat (first|refine sc rfl ?_|refine so rfl ?_)
  refine O_callBound [1] (h _ (mem_getDf hil)) rfl rfl rfl rfl rfl rfl ?_
  rintro r cs' ⟨rfl,rfl⟩
  repeat (first|refine sc rfl ?_|refine so rfl ?_)
  refine C_if rfl (fun m2=>?_) (fun m2=>?_)<;>simp only [pL] at m2
  ·rw [firstE_at hil hall m2]
   repeat (first|refine sc rfl ?_|refine so rfl ?_)
   exact ⟨_,[_],_,rfl,pickA_perm (is:=[0]) (As:=[_]) rfl,rfl,rfl,rfl⟩
  ·repeat (first|refine sc rfl ?_|refine so rfl ?_)
   rw [w64 (x:=(i:Int)+1) (by omega) (by omega)]
   refine ⟨i+1,⟨hil,fun j hj=>?_⟩,by omega,?_⟩
   ·by_cases hji:j<i
    ·exact hall j hji
    ·obtain rfl:j=i:=by omega
     exact m2
   ·exact Le.pick [0] ⟨rfl,rfl,rfl,rfl,trivial⟩ rfl
 ·obtain rfl:i=R.length:=by omega
  rw [firstE_end hall]
  repeat (first|refine sc rfl ?_|refine so rfl ?_)
  exact ⟨_,[_],_,rfl,pickA_perm (is:=[0]) (As:=[_]) rfl,rfl,rfl,rfl⟩

theorem mem_getDm {R:List Mth} {i:Nat} (h:i<R.length):R.getD i default∈R:=by rw [getD_at h];exact List.getElem_mem h
theorem firstM_G (A:Abs) (R:List Mth) (hl:R.length≤1000) (g:FuncId) (fs:List AV) (h:∀ f,f∈R→FnA Tryz.prog g (fs++[.agg (Mth.c f)]) [A] (fun r cs'=>∃ e,r=I64 e∧cs'=[A])) :
  FnA Tryz.prog 47 [SL 5 Mth.c R,.p (bndRP g fs)] [A] (fun r cs'=>∃ e,r=I64 e∧cs'=[A]):=by
 refine fnA Tryz.func47 fun X=>?_
 repeat (first|refine sc rfl ?_|refine so rfl ?_)
 refine C_loop (fun i:Nat=>⟨[(1,.p (bndRP g fs)),(8,SL 5 Mth.c R),(9,I64 (R.length:Nat)),(10,I64 (i:Nat))],[.abs A]⟩) (fun i=>i≤R.length) (fun i=>R.length-i) 0 (Nat.zero_le _) (Le.pick [0] ⟨rfl,rfl,rfl,rfl,trivial⟩ rfl) ?_
 intro i hi
 repeat (first|refine sc rfl ?_|refine so rfl ?_)
 refine C_if rfl (fun m1=>?_) (fun m1=>?_)<;>simp only [pL] at m1
 ·have hil:i<R.length:=by omega
  repeat (first|refine sc rfl ?_|refine so rfl ?_)
  refine ⟨by omega,?_⟩
  rw [Int.toNat_natCast]
  repeat (first|refine sc rfl ?_|refine so rfl ?_)
  refine O_callBound [1] (h _ (mem_getDm hil)) rfl rfl rfl rfl rfl rfl ?_
  rintro r cs' ⟨e,rfl,rfl⟩
  repeat (first|refine sc rfl ?_|refine so rfl ?_)
  refine C_if rfl (fun m2=>?_) (fun m2=>?_)<;>simp only [pL] at m2
  ·repeat (first|refine sc rfl ?_|refine so rfl ?_)
   exact ⟨_,[_],_,rfl,pickA_perm (is:=[0]) (As:=[_]) rfl,rfl,⟨_,rfl,rfl⟩⟩
  ·repeat (first|refine sc rfl ?_|refine so rfl ?_)
   rw [w64 (x:=(i:Int)+1) (by omega) (by omega)]
   exact ⟨i+1,hil,by omega,Le.pick [0] ⟨rfl,rfl,rfl,rfl,trivial⟩ rfl⟩
 ·repeat (first|refine sc rfl ?_|refine so rfl ?_)
  exact ⟨_,[_],_,rfl,pickA_perm (is:=[0]) (As:=[_]) rfl,rfl,⟨_,rfl,rfl⟩⟩
end Go.Proofs

namespace Go.Proofs
open Go.Sy Go.Lib

def PJ0:Pl:=⟨[],[],[],[]⟩
structure FineG (lo ln:List Dcl) (d:Dcl):Prop where
 k0:kindL ln d.name≠0
 kd:kindL ln d.name=d.kind
 ro:∀ f,f∈rowsU lo d.name→rowE (rowsU ln d.name) d f=0
 rn:∀ f,f∈rowsU ln d.name→freshE (rowsU lo d.name) d f=0

theorem jdecl_G (o n:Nat) (lo ln:List Dcl) (d:Dcl) (hPo:Prep lo) (hWo:WellL lo) (hPn:Prep ln) (hWn:WellL ln) (hfo:(rowsU lo d.name).length≤1000∧∀ f,f∈rowsU lo d.name→FewT f.ty) (hfn:(rowsU ln d.name).length≤1000) (hms:d.methods.length≤1000) :
  FnA Tryz.prog 28 [.cp (jdgC o n d)] [dscS o lo,dscS n ln] (fun r cs'=>∃ e,r=I64 e∧(e=0→FineG lo ln d)∧cs'=[dscS o lo,dscS n ln]):=by
 obtain ⟨K,nm,F,M,ft⟩:=d
 refine fnA Tryz.func28 fun X=>?_
 repeat (first|refine sc rfl ?_|refine so rfl ?_)
 refine C_drawM PJ0 (fun L=>[.abs (dscS o lo),.abs (dscS n ln)]) rfl (by kernel_rfl) (fun L L' h=>rfl) rfl ?_
 repeat (refine sm rfl ⟨trivial,?_⟩)
 refine SM (I64 (kindL ln nm)) rfl (fun L h1 h2 h3=>?_) ?_
 ·show StepX _ _ _ _ _ [.abs (dscS o lo),.abs (dscS n ln)] [.abs (dscS o lo),.abs (dscS n ln)] _ _ _
  exact (X_callA [1] (DKind_S n ln hPn nm) rfl rfl rfl rfl rfl).perm (.swap _ _ _)
 refine sm rfl ?_
 show SymC _ _ _ ⟨_,[.abs (dscS o lo),.abs (dscS n ln)]⟩ _
 repeat (first|refine sc rfl ?_|refine so rfl ?_)
 refine C_if rfl (fun k0=>?_) (fun k0=>?_)<;>simp only [pL] at k0
 ·repeat (first|refine sc rfl ?_|refine so rfl ?_)
  exact ⟨_,[_,_],_,rfl,pickA_perm (is:=[0,0]) (As:=[_,_]) rfl,rfl,⟨6,rfl,fun h=>absurd h (by decide),rfl⟩⟩
 repeat (first|refine sc rfl ?_|refine so rfl ?_)
 refine C_if rfl (fun kd=>?_) (fun kd=>?_)<;>simp only [pL] at kd
 rotate_left
 ·repeat (first|refine sc rfl ?_|refine so rfl ?_)
  exact ⟨_,[_,_],_,rfl,pickA_perm (is:=[0,0]) (As:=[_,_]) rfl,rfl,⟨4,rfl,fun h=>absurd h (by decide),rfl⟩⟩
 repeat refine sc rfl ?_
 refine C_drawM PJ0 (fun L=>[.abs (dscS o lo),.abs (dscS n ln)]) rfl (by kernel_rfl) (fun L L' h=>rfl) rfl ?_
 repeat (refine sm rfl ⟨trivial,?_⟩)
 refine SM (SL 5 Fld.c (rowsU lo nm)) rfl (fun L h1 h2 h3=>?_) ?_
 ·show StepX _ _ _ _ _ [.abs (dscS o lo),.abs (dscS n ln)] [.abs (dscS o lo),.abs (dscS n ln)] _ _ _
  exact X_callA [0] (DRows_S o lo hPo hWo nm) rfl rfl rfl rfl rfl
 repeat (refine sm rfl ⟨trivial,?_⟩)
 refine SM (.p (bndRP 46 [.cp (jdgC o n ⟨K,nm,F,M,ft⟩)])) rfl (fun L h1 h2 h3=>X_makeBound rfl rfl rfl rfl) ?_
 refine SM (I64 (firstE (rowE (rowsU ln nm) ⟨K,nm,F,M,ft⟩) (rowsU lo nm))) rfl (fun L h1 h2 h3=>?_) ?_
 ·show StepX _ _ _ _ _ [.abs (dscS o lo),.abs (dscS n ln)] [.abs (dscS o lo),.abs (dscS n ln)] _ _ _
  exact (X_callA [1] (first_G (dscS n ln) (rowsU lo nm) hfo.1 46 [.cp (jdgC o n ⟨K,nm,F,M,ft⟩)] _ (fun f hf=>jrow_A o n ln hPn hWn _ f (hfo.2 f hf))) rfl rfl rfl rfl rfl).perm (.swap _ _ _)
 repeat (refine sm rfl ⟨trivial,?_⟩)
 refine sm rfl ?_
 show SymC _ _ _ ⟨_,[.abs (dscS o lo),.abs (dscS n ln)]⟩ _
 repeat (first|refine sc rfl ?_|refine so rfl ?_)
 refine C_if rfl (fun ro=>?_) (fun ro=>?_)<;>simp only [pL] at ro
 ·repeat (first|refine sc rfl ?_|refine so rfl ?_)
  exact ⟨_,[_,_],_,rfl,pickA_perm (is:=[0,0]) (As:=[_,_]) rfl,rfl,⟨_,rfl,fun h=>absurd h ro,rfl⟩⟩
 repeat (first|refine sc rfl ?_|refine so rfl ?_)
 refine O_makeBound rfl rfl rfl rfl ?_
 repeat refine sc rfl ?_
 refine O_cA [1] (firstM_G (dscS n ln) M hms 48 [.cp (jdgC o n ⟨K,nm,F,M,ft⟩)] (fun m _=>jmth_tot o n ln hPn.few _ m)) ?_
 rintro r cs' ⟨em,rfl,rfl⟩
 repeat (first|refine sc rfl ?_|refine so rfl ?_)
 refine C_if rfl (fun me=>?_) (fun me=>?_)<;>simp only [pL] at me
 ·repeat (first|refine sc rfl ?_|refine so rfl ?_)
  exact ⟨_,[_,_],_,rfl,pickA_perm (is:=[1,0]) (As:=[_,_]) rfl,rfl,⟨_,rfl,fun h=>absurd h me,rfl⟩⟩
 repeat refine sc rfl ?_
 refine C_le ⟨[(0,.cp (jdgC o n ⟨K,nm,F,M,ft⟩))],[.abs (dscS o lo),.abs (dscS n ln)]⟩ (Le.perm [] ⟨rfl,trivial⟩ (.swap _ _ _)) ?_
 refine C_drawM PJ0 (fun L=>[.abs (dscS o lo),.abs (dscS n ln)]) rfl (by kernel_rfl) (fun L L' h=>rfl) rfl ?_
 repeat (refine sm rfl ⟨trivial,?_⟩)
 refine SM (SL 5 Fld.c (rowsU ln nm)) rfl (fun L h1 h2 h3=>?_) ?_
 ·show StepX _ _ _ _ _ [.abs (dscS o lo),.abs (dscS n ln)] [.abs (dscS o lo),.abs (dscS n ln)] _ _ _
  exact (X_callA [1] (DRows_S n ln hPn hWn nm) rfl rfl rfl rfl rfl).perm (.swap _ _ _)
 repeat (refine sm rfl ⟨trivial,?_⟩)
 refine SM (.p (bndRP 49 [.cp (jdgC o n ⟨K,nm,F,M,ft⟩)])) rfl (fun L h1 h2 h3=>X_makeBound rfl rfl rfl rfl) ?_
 refine SM (I64 (firstE (freshE (rowsU lo nm) ⟨K,nm,F,M,ft⟩) (rowsU ln nm))) rfl (fun L h1 h2 h3=>?_) ?_
 ·show StepX _ _ _ _ _ [.abs (dscS o lo),.abs (dscS n ln)] [.abs (dscS o lo),.abs (dscS n ln)] _ _ _
  exact X_callA [0] (first_G (dscS o lo) (rowsU ln nm) hfn 49 [.cp (jdgC o n ⟨K,nm,F,M,ft⟩)] _ (fun f hf=>jfresh_A o n lo hPo hWo _ f)) rfl rfl rfl rfl rfl
 repeat (refine sm rfl ⟨trivial,?_⟩)
 refine sm rfl ?_
 show SymC _ _ _ ⟨_,[.abs (dscS o lo),.abs (dscS n ln)]⟩ _
 repeat refine sc rfl ?_
 exact ⟨_,[_,_],_,rfl,pickA_perm (is:=[0,0]) (As:=[_,_]) rfl,rfl,⟨_,rfl,fun h=>⟨k0,kd,firstE_all ro,firstE_all h⟩,rfl⟩⟩
end Go.Proofs

namespace Go.Proofs
open Go.Sy Go.Lib

theorem Check_G (o n:Nat) (lo ln:List Dcl) (hPo:Prep lo) (hWo:WellL lo) (hPn:Prep ln) (hWn:WellL ln) (hfo:∀ nm,(rowsU lo nm).length≤1000∧∀ f,f∈rowsU lo nm→FewT f.ty) (hfn:∀ nm,(rowsU ln nm).length≤1000) :
  FnA Tryz.prog 15 [PT o 0,PT n 0] [dscS o lo,dscS n ln] (fun r cs'=>∃ e s,r=.tup [I64 e,.s s]∧(e=0→∀ d,d∈lo→FineG lo ln d)∧cs'=[dscS o lo,dscS n ln]):=by
 refine fnA Tryz.func15 fun X=>?_
 have hlen:lo.length≤1000:=hPo.few.1
 repeat (first|refine sc rfl ?_|refine so rfl ?_)
 refine O_cA [0] (decls_S o lo hPo.few) ?_
 rintro r cs' ⟨rfl,rfl⟩
 repeat (first|refine sc rfl ?_|refine so rfl ?_)
 refine C_loop (fun i:Nat=>⟨[(0,PT o 0),(1,PT n 0),(11,SL 5 Dcl.c lo),(12,I64 (lo.length:Nat)),(13,I64 (i:Nat))],[.abs (dscS o lo),.abs (dscS n ln)]⟩) (fun i=>i≤lo.length∧∀ j,j<i→FineG lo ln (lo.getD j default)) (fun i=>lo.length-i) 0 ⟨Nat.zero_le _,fun j hj=>absurd hj (Nat.not_lt_zero _)⟩ (Le.pick [0,0] ⟨rfl,rfl,rfl,rfl,rfl,trivial⟩ rfl) ?_
 rintro i ⟨hi,hall⟩
 repeat (first|refine sc rfl ?_|refine so rfl ?_)
 refine C_if rfl (fun m1=>?_) (fun m1=>?_)<;>simp only [pL] at m1
 ·have hil:i<lo.length:=by omega
  repeat (first|refine sc rfl ?_|refine so rfl ?_)
  refine ⟨by omega,?_⟩
  rw [Int.toNat_natCast]
  repeat (first|refine sc rfl ?_|refine so rfl ?_)
  refine O_le _ (Le.freezebox 22 rfl rfl rfl) ?_
  have hd:lo.getD i default∈lo:=by rw [getD_at hil];exact List.getElem_mem hil
  refine O_cA [1,1] (jdecl_G o n lo ln (lo.getD i default) hPo hWo hPn hWn (hfo _) (hfn _) (hPo.few.2 i hil).m) ?_
  rintro r cs' ⟨e,rfl,he,rfl⟩
  repeat (first|refine sc rfl ?_|refine so rfl ?_)
  refine C_if rfl (fun m2=>?_) (fun m2=>?_)<;>simp only [pL] at m2
  ·repeat refine sc rfl ?_
   refine C_drawD rfl (by kernel_rfl) ?_
   repeat refine sd rfl ?_
   repeat refine sc rfl ?_
   exact ⟨_,[_,_],_,rfl,pickA_perm (is:=[0,0]) (As:=[_,_]) rfl,rfl,⟨_,_,rfl,fun h=>absurd h m2,rfl⟩⟩
  ·repeat (first|refine sc rfl ?_|refine so rfl ?_)
   rw [w64 (x:=(i:Int)+1) (by omega) (by omega)]
   refine ⟨i+1,⟨hil,fun j hj=>?_⟩,by omega,?_⟩
   ·by_cases hji:j<i
    ·exact hall j hji
    ·obtain rfl:j=i:=by omega
     exact he m2
   ·exact Le.pick [0,0] ⟨rfl,rfl,rfl,rfl,rfl,trivial⟩ rfl
 ·obtain rfl:i=lo.length:=by omega
  repeat (first|refine sc rfl ?_|refine so rfl ?_)
  have hF:∀ d,d∈lo→FineG lo ln d:=fun d hd=>by
   obtain ⟨k,hk,rfl⟩:=List.mem_iff_getElem.1 hd
   have:=hall k hk
   rwa [getD_at hk] at this
  exact ⟨_,[_,_],_,rfl,pickA_perm (is:=[0,0]) (As:=[_,_]) rfl,rfl,⟨_,_,rfl,fun _=>hF,rfl⟩⟩
def goneF (R2 R:List Fld):List Int:=(R.filter (fun f=>!hasJ R2 f.tag)).map (·.tag)
theorem goneF_snoc (R2 R:List Fld) (f:Fld):goneF R2 (R++[f])=goneF R2 R++(if hasJ R2 f.tag=true then [] else [f.tag]):=by
 unfold goneF
 cases h:hasJ R2 f.tag<;>simp [h]
theorem goneF_len (R2 R:List Fld):(goneF R2 R).length≤R.length:=by
 unfold goneF
 rw [List.length_map]
 exact List.length_filter_le _ _
theorem take_snoc {R:List Fld} {i:Nat} (h:i<R.length):R.take (i+1)=R.take i++[R.getD i default]:=by
 rw [List.take_succ_eq_append_getElem h,getD_at h]

theorem Gone_A (o n:Nat) (lo ln:List Dcl) (hPo:Prep lo) (hWo:WellL lo) (hPn:Prep ln) (hWn:WellL ln) (nm:List UInt8) (hfo:(rowsU lo nm).length≤1000) :
  FnA Tryz.prog 16 [PT o 0,PT n 0,.s nm] [dscS o lo,dscS n ln] (fun r cs'=>r=SL 1 INTc (goneF (rowsU ln nm) (rowsU lo nm))∧cs'=[dscS o lo,dscS n ln]):=by
 refine fnA Tryz.func16 fun X=>?_
 repeat (first|refine sc rfl ?_|refine so rfl ?_)
 refine O_cA [0] (DRows_S o lo hPo hWo nm) ?_
 rintro r cs' ⟨rfl,rfl⟩
 generalize rowsU lo nm=R at *
 repeat (first|refine sc rfl ?_|refine so rfl ?_)
 refine C_le _ (Le.nilvec INTc 7 34 3 1 rfl rfl rfl) ?_
 refine C_loop (fun i:Nat=>⟨[(0,PT o 0),(1,PT n 0),(2,.s nm),(7,.own 34),(14,SL 5 Fld.c R),(15,I64 (R.length:Nat)),(16,I64 (i:Nat))],[VEC 34 3 1 INTc (goneF (rowsU ln nm) (R.take i)),.abs (dscS o lo),.abs (dscS n ln)]⟩) (fun i=>i≤R.length) (fun i=>R.length-i) 0 (Nat.zero_le _) (Le.pick [0,0,0] ⟨rfl,rfl,rfl,rfl,rfl,rfl,rfl,trivial⟩ rfl) ?_
 intro i hi
 repeat (first|refine sc rfl ?_|refine so rfl ?_)
 refine C_if rfl (fun m1=>?_) (fun m1=>?_)<;>simp only [pL] at m1
 ·have hil:i<R.length:=by omega
  have hg:=goneF_len (rowsU ln nm) (R.take i)
  have hx:=goneF_snoc (rowsU ln nm) (R.take i) (R.getD i default)
  rw [← take_snoc hil] at hx
  rw [List.length_take] at hg
  repeat (first|refine sc rfl ?_|refine so rfl ?_)
  refine ⟨by omega,?_⟩
  rw [Int.toNat_natCast]
  repeat (first|refine sc rfl ?_|refine so rfl ?_)
  refine O_cA [3] (DRow_F n ln hPn hWn nm (R.getD i default).tag) ?_
  rintro r cs' ⟨rfl,rfl⟩
  repeat (first|refine sc rfl ?_|refine so rfl ?_)
  cases hh:hasJ (rowsU ln nm) (R.getD i default).tag with
  | true =>
   refine C_false rfl rfl ?_
   rw [hh,if_pos rfl,List.append_nil] at hx
   repeat (first|refine sc rfl ?_|refine so rfl ?_)
   rw [w64 (x:=(i:Int)+1) (by omega) (by omega)]
   refine ⟨i+1,hil,by omega,?_⟩
   rw [hx]
   exact Le.pick [3,3,1] ⟨rfl,rfl,rfl,rfl,rfl,rfl,rfl,trivial⟩ rfl
  | false =>
   refine C_true rfl rfl ?_
   rw [hh,if_neg (by decide)] at hx
   repeat first|refine sc rfl ?_|refine so rfl ?_|refine sb rfl ?_
   refine O_push INTc (goneF (rowsU ln nm) (R.take i)) (R.getD i default).tag [(0,PT o 0),(1,PT n 0),(2,.s nm),(14,SL 5 Fld.c R),(15,I64 (R.length:Nat)),(16,I64 (i:Nat))] rfl rfl rfl rfl rfl rfl rfl rfl rfl rfl ⟨rfl,rfl,rfl,rfl,rfl,rfl,trivial⟩ rfl rfl (by omega) (by simp only [maxLen];omega) ?_
   rw [← hx]
   repeat (first|refine sc rfl ?_|refine so rfl ?_)
   rw [w64 (x:=(i:Int)+1) (by omega) (by omega)]
   refine ⟨i+1,hil,by omega,?_⟩
   exact Le.pick [0,4,2] ⟨rfl,rfl,rfl,rfl,rfl,rfl,rfl,trivial⟩ rfl
 ·obtain rfl:i=R.length:=by omega
  rw [List.take_length]
  refine C_le _ (Le.freezeL 7 rfl rfl) ?_
  repeat (first|refine sc rfl ?_|refine so rfl ?_)
  exact ⟨_,[_,_],_,rfl,pickA_perm (is:=[0,0]) (As:=[_,_]) rfl,rfl,rfl,rfl⟩
end Go.Proofs

namespace Go.Proofs
open Go.Sy Go.Lib

theorem Decls_nil:FnP Tryz.prog 27 [.v (.pointer none)] (·=.v (.slice none 0 0)):=by
 refine fnP Tryz.func27 fun X=>?_
 repeat (first|refine sc rfl ?_|refine so rfl ?_)
 refine O_Xd (X_ptrnil Tryz.underlying32 rfl rfl rfl) ?_
 repeat refine so rfl ?_
 refine C_true rfl rfl ?_
 repeat (first|refine sc rfl ?_|refine so rfl ?_)
 exact ⟨_,rfl,rfl,rfl⟩
theorem Check_nil (x:AV):FnP Tryz.prog 15 [.v (.pointer none),x] (·=.tup [I64 0,.s []]):=by
 refine fnP Tryz.func15 fun X=>?_
 repeat (first|refine sc rfl ?_|refine so rfl ?_)
 refine O_cP Decls_nil fun r hr=>?_
 subst hr
 repeat (first|refine sc rfl ?_|refine so rfl ?_)
 refine C_loop (fun _:Unit=>⟨[(12,I64 ((0:Nat):Int)),(13,I64 0)],[]⟩) (fun _=>True) (fun _=>0) () trivial (Le.sub [] ⟨rfl,rfl,trivial⟩ rfl) ?_
 intro _ _
 repeat (first|refine sc rfl ?_|refine so rfl ?_)
 refine C_if rfl (fun m1=>?_) (fun m1=>?_)<;>simp only [pL] at m1
 ·exact absurd m1 (by decide)
 ·repeat (first|refine sc rfl ?_|refine so rfl ?_)
  exact ⟨_,rfl,rfl,rfl⟩
theorem decl_nil (o:Nat) (d:Dcl):FnP Tryz.prog 28 [.cp (PT o 0::.v (.pointer none)::Dcl.c d)] (·=I64 6):=by
 refine fnP Tryz.func28 fun X=>?_
 repeat (first|refine sc rfl ?_|refine so rfl ?_)
 refine C_drawD rfl (by kernel_rfl) ?_
 repeat refine sd rfl ?_
 refine D_call (Kind_nil d.name) rfl rfl rfl rfl ?_
 repeat refine sd rfl ?_
 repeat (first|refine sc rfl ?_|refine so rfl ?_)
 refine C_true rfl rfl ?_
 repeat (first|refine sc rfl ?_|refine so rfl ?_)
 exact ⟨_,rfl,rfl,rfl⟩
theorem Check_now (o:Nat) (lo:List Dcl) (hP:Prep lo):FnA Tryz.prog 15 [PT o 0,.v (.pointer none)] [dscS o lo] (fun r cs'=>∃ e s,r=.tup [I64 e,.s s]∧(e=0→lo=[])∧cs'=[dscS o lo]):=by
 refine fnA Tryz.func15 fun X=>?_
 have hlen:lo.length≤1000:=hP.few.1
 repeat (first|refine sc rfl ?_|refine so rfl ?_)
 refine O_cA [0] (decls_S o lo hP.few) ?_
 rintro r cs' ⟨rfl,rfl⟩
 repeat (first|refine sc rfl ?_|refine so rfl ?_)
 refine C_loop (fun _:Unit=>⟨[(0,PT o 0),(1,.v (.pointer none)),(11,SL 5 Dcl.c lo),(12,I64 (lo.length:Nat)),(13,I64 ((0:Nat):Int))],[.abs (dscS o lo)]⟩) (fun _=>True) (fun _=>0) () trivial (Le.pick [0] ⟨rfl,rfl,rfl,rfl,rfl,trivial⟩ rfl) ?_
 intro _ _
 repeat (first|refine sc rfl ?_|refine so rfl ?_)
 refine C_if rfl (fun m1=>?_) (fun m1=>?_)<;>simp only [pL] at m1
 ·have hil:0<lo.length:=by omega
  repeat (first|refine sc rfl ?_|refine so rfl ?_)
  refine ⟨by omega,?_⟩
  rw [Int.toNat_natCast]
  repeat (first|refine sc rfl ?_|refine so rfl ?_)
  refine O_le _ (Le.freezebox 22 rfl rfl rfl) ?_
  refine O_cP (decl_nil o (lo.getD 0 default)) fun r hr=>?_
  subst hr
  repeat (first|refine sc rfl ?_|refine so rfl ?_)
  refine C_true rfl rfl ?_
  repeat refine sc rfl ?_
  refine C_drawD rfl (by kernel_rfl) ?_
  repeat refine sd rfl ?_
  repeat refine sc rfl ?_
  exact ⟨_,[_],_,rfl,pickA_perm (is:=[1]) (As:=[_]) rfl,rfl,⟨6,_,rfl,fun h=>absurd h (by decide),rfl⟩⟩
 ·have h0:lo=[]:=List.length_eq_zero_iff.1 (by omega)
  repeat (first|refine sc rfl ?_|refine so rfl ?_)
  exact ⟨_,[_],_,rfl,pickA_perm (is:=[0]) (As:=[_]) rfl,rfl,⟨_,_,rfl,fun _=>h0,rfl⟩⟩
end Go.Proofs

namespace Go.Proofs
open Go.Sy Go.Lib

theorem fndL_named {nm:List UInt8}:∀ {l:List Dcl} {j:Nat},fndL nm l=some j→(l.getD j default).name=nm
 | [],j,h=>by simp [fndL] at h
 | d::l,j,h=>by
  simp only [fndL] at h
  split at h
  ·rename_i hd
   cases h;simpa using hd
  ·obtain ⟨i,hi,rfl⟩:=Option.map_eq_some_iff.1 h
   simpa using fndL_named hi
theorem kindL_at {l:List Dcl} {nm:List UInt8} (h:kindL l nm≠0):∃ j,j<l.length∧(l.getD j default).name=nm∧(l.getD j default).kind=kindL l nm:=by
 unfold kindL at h ⊢
 cases hf:fndL nm l with
 | none=>rw [hf] at h;exact absurd rfl h
 | some j=>exact ⟨j,fndL_lt hf,fndL_named hf,rfl⟩
theorem fewU {l:List Dcl} {nm:List UInt8} (hP:Prep l) (hW:WellL l):(rowsU l nm).length≤1000∧∀ f,f∈rowsU l nm→FewT f.ty:=by
 obtain ⟨Rs,hRs⟩:=rows_ex l
 rw [← rowsU_eq hW hRs]
 unfold rowsL
 cases hf:fndL nm l with
 | none=>exact ⟨Nat.zero_le _,fun f h=>by cases h⟩
 | some j =>
  have hj:=fndL_lt hf
  have:=(hRs.2 j hj).few (hP.few.2 j hj).f
  exact ⟨this.1,fun f h=>by obtain ⟨i,hi,rfl⟩:=getD_mem h;exact this.2 i hi⟩
theorem cpt_of {l m:List Dcl} (h:∀ d,d∈l→FineG l m d):Cpt l m:=by
 have h':∀ nm,kindL l nm≠0→∃ d:Dcl,d.name=nm∧d.kind=kindL l nm∧FineG l m d:=fun nm hk=>by
  obtain ⟨j,hj,e1,e2⟩:=kindL_at hk
  exact ⟨_,e1,e2,h _ (by rw [getD_at hj];exact List.getElem_mem hj)⟩
 refine ⟨fun nm hk=>?_,fun nm g hk hg=>?_,fun nm f hk hf hn=>?_⟩
 ·obtain ⟨d,rfl,e2,hF⟩:=h' nm hk
  rw [hF.kd,e2]
 ·obtain ⟨d,rfl,e2,hF⟩:=h' nm hk
  obtain ⟨h1,h2⟩:=has_row hg
  have hr:=hF.ro _ h1
  unfold rowE at hr
  rw [h2] at hr
  split at hr
  ·rename_i hm
   left
   refine ⟨hm,?_⟩
   cases hs:sameT (fldJ (rowsU l d.name) g).ty (fldJ (rowsU m d.name) g).ty with
   | true=>exact (sameT_true.1 hs).symm
   | false=>rw [hs] at hr;exact absurd hr (by decide)
  ·rename_i hm
   split at hr
   ·rename_i hc
    right
    exact ⟨by rw [← e2];exact hc.1,hc.2,by simpa using hm⟩
   ·exact absurd hr (by decide)
 ·obtain ⟨d,rfl,e2,hF⟩:=h' nm (by rw [hk];decide)
  have hr:=hF.rn f hf
  unfold freshE at hr
  split at hr
  ·exact absurd hr (by decide)
  ·rename_i hc
   by_cases h9:f.ty.kind=9
   ·exact h9
   ·exact absurd ⟨hn,by rw [e2,hk],h9⟩ hc
theorem full_of {l m:List Dcl} (h:∀ j,j<l.length→goneF (rowsU m (l.getD j default).name) (rowsU l (l.getD j default).name)=[]):Full l m:=fun nm g hk hg=>by
 obtain ⟨j,hj,rfl,e2⟩:=kindL_at hk
 have:=h j hj
 unfold goneF at this
 rw [List.map_eq_nil_iff,List.filter_eq_nil_iff] at this
 obtain ⟨h1,h2⟩:=has_row hg
 have:=this _ h1
 rw [h2] at this
 simpa using this
end Go.Proofs

namespace Go.Proofs
open Go.Sy Go.Lib

set_option maxHeartbeats 3200000 in
theorem decodeTakes_A (m:Int) (l k:List Dcl) (v:Val) (nm:List UInt8):FnA Tryz.prog 5 [SL 5 Dcl.c l,SL 5 Dcl.c k,.agg (.s nm::Val.c v)] [glbA m,tabA] (fun r cs'=>r=B true∧cs'=[glbA m,tabA]):=by
 refine fnA Tryz.func5 fun X=>?_
 have aw:=awake18_A m
 iterate 2 refine sc rfl ?_
 refine so rfl ?_
 refine O_le _ (Le.freezebox 5 rfl rfl rfl) ?_
 repeat (first|refine sc rfl ?_|refine so rfl ?_)
 refine O_cP (Great_c l) fun r hr=>?_
 obtain ⟨g,rfl,hg⟩:=hr
 repeat refine so rfl ?_
 cases g with
 | true =>
  repeat refine so rfl ?_
  refine C_true rfl rfl ?_
  repeat refine sc rfl ?_
  refine O_cA [0,0] aw ?_
  rintro r cs' ⟨rfl,rfl⟩
  repeat (first|refine sc rfl ?_|refine so rfl ?_)
  exact ⟨_,[_,_],_,rfl,pickA_perm (is:=[0,0]) (As:=[_,_]) rfl,rfl,rfl,rfl⟩
 | false =>
  have hL:=hg rfl
  repeat refine so rfl ?_
  refine O_cP (Great_c k) fun r hr=>?_
  obtain ⟨g2,rfl,hg2⟩:=hr
  repeat refine so rfl ?_
  cases g2 with
  | true =>
   repeat refine so rfl ?_
   refine C_true rfl rfl ?_
   repeat refine sc rfl ?_
   refine O_cA [0,0] aw ?_
   rintro r cs' ⟨rfl,rfl⟩
   repeat (first|refine sc rfl ?_|refine so rfl ?_)
   exact ⟨_,[_,_],_,rfl,pickA_perm (is:=[0,0]) (As:=[_,_]) rfl,rfl,rfl,rfl⟩
  | false =>
   have hK:=hg2 rfl
   repeat refine so rfl ?_
   refine O_cP (Great15_c _ v (Nat.le_refl _) 0 (by decide)) fun r hr=>?_
   subst hr
   repeat refine so rfl ?_
   cases hgv:greatF v 0 with
   | true =>
    repeat refine sc rfl ?_
    refine C_true rfl rfl ?_
    repeat refine sc rfl ?_
    refine O_cA [0,0] aw ?_
    rintro r cs' ⟨rfl,rfl⟩
    repeat (first|refine sc rfl ?_|refine so rfl ?_)
    exact ⟨_,[_,_],_,rfl,pickA_perm (is:=[0,0]) (As:=[_,_]) rfl,rfl,rfl,rfl⟩
   | false =>
    obtain ⟨hfew,hdeep⟩:=greatF_few _ v 0 (Nat.le_refl _) hgv
    have hsz:=great_size _ v 0 (Nat.le_refl _) hgv
    have hLB:=few_len _ v (Nat.le_refl _) hfew
    repeat refine sc rfl ?_
    refine C_false rfl rfl ?_
    repeat (first|refine sc rfl ?_|refine so rfl ?_)
    refine O_cA [] (MadeZ_A l hL.1) ?_
    rintro r cs' (⟨rfl,rfl⟩|⟨b,rfl,hW,rfl⟩)
    ·repeat (first|refine sc rfl ?_|refine so rfl ?_)
     refine O_cA [] (MadeZ_A k hK.1) ?_
     rintro r cs' (⟨rfl,rfl⟩|⟨c,rfl,hW2,rfl⟩)
     ·repeat (first|refine sc rfl ?_|refine so rfl ?_)
      refine O_cP (Check_nil _) fun r hr=>?_
      subst hr
      repeat (first|refine sc rfl ?_|refine so rfl ?_)
      refine O_cP (Encode_nil nm v) fun r hr=>?_
      subst hr
      repeat (first|refine sc rfl ?_|refine so rfl ?_)
      refine C_true rfl rfl ?_
      repeat refine sc rfl ?_
      refine O_cA [0,0] aw ?_
      rintro r cs' ⟨rfl,rfl⟩
      repeat (first|refine sc rfl ?_|refine so rfl ?_)
      exact ⟨_,[_,_],_,rfl,pickA_perm (is:=[0,0]) (As:=[_,_]) rfl,rfl,rfl,rfl⟩
     ·repeat (first|refine sc rfl ?_|refine so rfl ?_)
      refine O_cP (Check_nil _) fun r hr=>?_
      subst hr
      repeat (first|refine sc rfl ?_|refine so rfl ?_)
      refine O_cP (Encode_nil nm v) fun r hr=>?_
      subst hr
      repeat (first|refine sc rfl ?_|refine so rfl ?_)
      refine C_true rfl rfl ?_
      repeat refine sc rfl ?_
      refine O_cA [1,1] aw ?_
      rintro r cs' ⟨rfl,rfl⟩
      repeat (first|refine sc rfl ?_|refine so rfl ?_)
      exact ⟨_,[_,_],_,rfl,pickA_perm (is:=[0,0]) (As:=[_,_]) rfl,rfl,rfl,rfl⟩
    ·have hP:=prep_of hL hW.1
     have hS:=sch_of hL.1 hW.1
     obtain ⟨e,he,hfit⟩:=fitS_tot hS nm v hLB (by omega)
     have hcase:(∃ e:Int,e≠0∧EnEncode_F l nm v=some ([],e))∨(kindL l nm=1∧Fit l 8 (tyN nm) v∧(encI l 8 (tyN nm) v).length≤1024∧EnEncode_F l nm v=some (encI l 8 (tyN nm) v,0)):=by
      by_cases h0:e=0
      ·obtain ⟨hk,hF⟩:=hfit h0
       have hz:=(enc_size hS 8 true _ v (tyN_ok (.inl hk)) hF (by omega)).1
       have hen:=encS_fit hS hLB hk hF (by omega)
       by_cases hc:1024<(encI l 8 (tyN nm) v).length
       ·rw [if_pos hc] at hen;exact .inl ⟨3,by decide,hen⟩
       ·rw [if_neg hc] at hen;exact .inr ⟨hk,hF,by omega,hen⟩
      ·exact .inl ⟨e,h0,encS_err he h0⟩
     repeat (first|refine sc rfl ?_|refine so rfl ?_)
     refine O_cA [] (MadeZ_A k hK.1) ?_
     rintro r cs' (⟨rfl,rfl⟩|⟨c,rfl,hW2,rfl⟩)
     ·repeat (first|refine sc rfl ?_|refine so rfl ?_)
      refine O_cA [0] (Check_now b l hP) ?_
      rintro r cs' ⟨e1,s1,rfl,hnone,rfl⟩
      repeat (first|refine sc rfl ?_|refine so rfl ?_)
      rcases hcase with ⟨e2,h0,hen⟩|⟨hk,hF,hlen,hen⟩
      ·skip
       refine O_cA [0,1] (Encode_A b l hP hW.1 nm v _ hen) ?_
       rintro r cs' ⟨rfl,rfl⟩
       repeat (first|refine sc rfl ?_|refine so rfl ?_)
       refine O_case 59 rfl (fun q1=>?_) (fun q1=>?_)
       ·repeat refine so rfl ?_
        refine C_true rfl rfl ?_
        repeat refine sc rfl ?_
        refine O_cA [2,1] aw ?_
        rintro r cs' ⟨rfl,rfl⟩
        repeat (first|refine sc rfl ?_|refine so rfl ?_)
        exact ⟨_,[_,_],_,rfl,pickA_perm (is:=[0,0]) (As:=[_,_]) rfl,rfl,rfl,rfl⟩
       ·repeat refine so rfl ?_
        refine C_true rfl (by simpa using h0) ?_
        repeat refine sc rfl ?_
        refine O_cA [2,1] aw ?_
        rintro r cs' ⟨rfl,rfl⟩
        repeat (first|refine sc rfl ?_|refine so rfl ?_)
        exact ⟨_,[_,_],_,rfl,pickA_perm (is:=[0,0]) (As:=[_,_]) rfl,rfl,rfl,rfl⟩
      ·skip
       refine O_cA [0,1] (Encode_A b l hP hW.1 nm v _ hen) ?_
       rintro r cs' ⟨rfl,rfl⟩
       repeat (first|refine sc rfl ?_|refine so rfl ?_)
       refine O_case 59 rfl (fun q1=>?_) (fun q1=>?_)
       ·repeat refine so rfl ?_
        refine C_true rfl rfl ?_
        repeat refine sc rfl ?_
        refine O_cA [2,1] aw ?_
        rintro r cs' ⟨rfl,rfl⟩
        repeat (first|refine sc rfl ?_|refine so rfl ?_)
        exact ⟨_,[_,_],_,rfl,pickA_perm (is:=[0,0]) (As:=[_,_]) rfl,rfl,rfl,rfl⟩
       ·exact absurd hk (by rw [hnone (by simpa using q1),show kindL [] nm=0 from rfl];decide)
     ·have hP2:=prep_of hK hW2.1
      have hS2:=sch_of hK.1 hW2.1
      repeat (first|refine sc rfl ?_|refine so rfl ?_)
      refine O_cA [1,0] (Check_G b c l k hP hW.1 hP2 hW2.1 (fun n=>fewU hP hW.1) (fun n=>(fewU hP2 hW2.1).1)) ?_
      rintro r cs' ⟨e1,s1,rfl,hfine,rfl⟩
      repeat (first|refine sc rfl ?_|refine so rfl ?_)
      rcases hcase with ⟨e2,h0,hen⟩|⟨hk,hF,hlen,hen⟩
      ·skip
       refine O_cA [0,2] (Encode_A b l hP hW.1 nm v _ hen) ?_
       rintro r cs' ⟨rfl,rfl⟩
       repeat (first|refine sc rfl ?_|refine so rfl ?_)
       refine O_case 59 rfl (fun q1=>?_) (fun q1=>?_)
       ·repeat refine so rfl ?_
        refine C_true rfl rfl ?_
        repeat refine sc rfl ?_
        refine O_cA [3,1] aw ?_
        rintro r cs' ⟨rfl,rfl⟩
        repeat (first|refine sc rfl ?_|refine so rfl ?_)
        exact ⟨_,[_,_],_,rfl,pickA_perm (is:=[0,0]) (As:=[_,_]) rfl,rfl,rfl,rfl⟩
       ·repeat refine so rfl ?_
        refine C_true rfl (by simpa using h0) ?_
        repeat refine sc rfl ?_
        refine O_cA [3,1] aw ?_
        rintro r cs' ⟨rfl,rfl⟩
        repeat (first|refine sc rfl ?_|refine so rfl ?_)
        exact ⟨_,[_,_],_,rfl,pickA_perm (is:=[0,0]) (As:=[_,_]) rfl,rfl,rfl,rfl⟩
      ·skip
       refine O_cA [0,2] (Encode_A b l hP hW.1 nm v _ hen) ?_
       rintro r cs' ⟨rfl,rfl⟩
       repeat (first|refine sc rfl ?_|refine so rfl ?_)
       refine O_case 59 rfl (fun q1=>?_) (fun q1=>?_)
       ·repeat refine so rfl ?_
        refine C_true rfl rfl ?_
        repeat refine sc rfl ?_
        refine O_cA [3,1] aw ?_
        rintro r cs' ⟨rfl,rfl⟩
        repeat (first|refine sc rfl ?_|refine so rfl ?_)
        exact ⟨_,[_,_],_,rfl,pickA_perm (is:=[0,0]) (As:=[_,_]) rfl,rfl,rfl,rfl⟩
       ·have hC:=cpt_of (hfine (by simpa using q1))
        have h1000:l.length≤1000:=hP.few.1
        repeat refine so rfl ?_
        refine C_false rfl rfl ?_
        repeat (first|refine sc rfl ?_|refine so rfl ?_)
        obtain ⟨v',hfull,hle,hdec⟩:=dec_back hS hS2 hC hk hF (by omega) (by omega) 1099511627776
        rw [if_neg (by omega)] at hdec
        refine C_loop (fun q:Nat×Bool=>⟨[(5,.cp (.s nm::Val.c v)),(7,PT b 0),(8,SL 5 Dcl.c l),(9,PT c 0),(13,.s (encI l 8 (tyN nm) v)),(15,B q.2),(16,I64 (q.1:Nat))],[.abs (dscS b l),.abs (dscS c k),.abs tabA,.abs (glbA m)]⟩)
         (fun q=>q.1≤l.length∧(q.2=false→∀ j,j<q.1→goneF (rowsU k (l.getD j default).name) (rowsU l (l.getD j default).name)=[])) (fun q=>l.length-q.1) (0,false) ⟨Nat.zero_le _,fun _ j hj=>absurd hj (Nat.not_lt_zero _)⟩ ?_ ?_
        ·exact Le.pick [0,1,0,0] ⟨rfl,rfl,rfl,rfl,rfl,rfl,rfl,trivial⟩ rfl
        rintro ⟨i,gn⟩ ⟨hi,hgn⟩
        simp only [] at hi hgn
        repeat (first|refine sc rfl ?_|refine so rfl ?_)
        refine C_if rfl (fun m1=>?_) (fun m1=>?_)<;>simp only [pL] at m1
        ·have hil:i<l.length:=by omega
         repeat (first|refine sc rfl ?_|refine so rfl ?_)
         cases gn with
         | true =>
          repeat (first|refine sc rfl ?_|refine so rfl ?_)
          rw [w64 (x:=(i:Int)+1) (by omega) (by omega)]
          exact ⟨(i+1,true),⟨hil,fun h=>absurd h (by simp)⟩,by show l.length-(i+1)<l.length-i;omega,Le.pick [0,0,0,0] ⟨rfl,rfl,rfl,rfl,rfl,rfl,rfl,trivial⟩ rfl⟩
         | false =>
          repeat refine so rfl ?_
          refine ⟨by omega,?_⟩
          rw [Int.toNat_natCast]
          repeat refine so rfl ?_
          refine O_cA [0,0] (Gone_A b c l k hP hW.1 hP2 hW2.1 (l.getD i default).name (fewU hP hW.1).1) ?_
          rintro r cs' ⟨rfl,rfl⟩
          repeat (first|refine sc rfl ?_|refine so rfl ?_)
          rw [w64 (x:=(i:Int)+1) (by omega) (by omega)]
          refine ⟨(i+1,decide (((0:Int)<((goneF (rowsU k (l.getD i default).name) (rowsU l (l.getD i default).name)).length:Int)))),⟨hil,fun h j hj=>?_⟩,by show l.length-(i+1)<l.length-i;omega,?_⟩
          ·by_cases hji:j<i
           ·exact hgn rfl j hji
           ·obtain rfl:j=i:=by simp only [] at hj;omega
            exact List.length_eq_zero_iff.1 (by simpa using h)
          ·exact Le.pick [0,0,0,0] ⟨rfl,rfl,rfl,rfl,rfl,rfl,rfl,trivial⟩ rfl
        ·obtain rfl:i=l.length:=by omega
         repeat (first|refine sc rfl ?_|refine so rfl ?_)
         refine O_cA [1,1] (Decode_A c k hP2 hW2.1 nm _ 1099511627776 _ hdec) ?_
         rintro r cs' ⟨rfl,rfl⟩
         repeat (first|refine sc rfl ?_|refine so rfl ?_)
         cases gn with
         | true =>
          repeat refine so rfl ?_
          refine O_cA [4,2] aw ?_
          rintro r cs' ⟨rfl,rfl⟩
          repeat (first|refine sc rfl ?_|refine so rfl ?_)
          exact ⟨_,[_,_],_,rfl,pickA_perm (is:=[0,0]) (As:=[_,_]) rfl,rfl,rfl,rfl⟩
         | false =>
          obtain rfl:=hfull (full_of (hgn rfl))
          repeat refine so rfl ?_
          refine O_cP (Same_same v' hLB) fun r hr=>?_
          subst hr
          repeat refine so rfl ?_
          refine O_cA [4,2] aw ?_
          rintro r cs' ⟨rfl,rfl⟩
          repeat (first|refine sc rfl ?_|refine so rfl ?_)
          exact ⟨_,[_,_],_,rfl,pickA_perm (is:=[0,0]) (As:=[_,_]) rfl,rfl,rfl,rfl⟩
end Go.Proofs

namespace Go.Proofs.YtgmdpfoccnalnaaGreatDoor.decodeTakesDone
open Go.ChangeShapes Go.WideShapes

theorem fact1:Rows.decodeTakesRow.wf (OpenSpec.ofChange Rows.decodeTakesSpec)=true:=by kernel_rfl
theorem fact2:laidOutB Tryz.prog=true:=by kernel_rfl
theorem fact3:mapsRowed Tryz.prog=true:=by kernel_rfl
theorem fact4:Tryz.f5.params.all (Program.readableRec Tryz.prog ·)=true:=by kernel_rfl
theorem fact5:namedTie Tryz.prog Rows.decodeTakesRow.named Rows.decodeTakesSpec.vars=true:=by kernel_rfl
theorem fact6:(Rows.decodeTakesRow.stops == [])=true:=by kernel_rfl
theorem fact7:(Tryz.prog.stops == [])=true:=by kernel_rfl
theorem fact8:(Rows.decodeTakesRow.knobs == [])=true:=by kernel_rfl
theorem fact9:(Tryz.prog.stopKnobs == [])=true:=by kernel_rfl
theorem fact10:(Rows.decodeTakesRow.inPlace == Tryz.prog.inPlace 5)=true:=by kernel_rfl
theorem fact11:(Rows.decodeTakesRow.unfollowed == Tryz.prog.unfollowed 5)=true:=by kernel_rfl
theorem fact12:(Rows.decodeTakesRow.recurses == Tryz.prog.recurses 5)=true:=by kernel_rfl
theorem fact13:(Rows.decodeTakesRow.named == Tryz.prog.varsNamed 5)=true:=by kernel_rfl
theorem fact14:(Rows.decodeTakesRow.maps == (Tryz.f5.params.toList++Rows.decodeTakesSpec.plain.varTypes Tryz.prog).any (Program.mapsRec Tryz.prog ·))=true:=by kernel_rfl
theorem fact15:(Rows.decodeTakesRow.ifaces == (Tryz.f5.params.toList++Rows.decodeTakesSpec.plain.varTypes Tryz.prog).any (Program.ifacesRec Tryz.prog ·))=true:=by kernel_rfl
theorem fact16:(Rows.decodeTakesRow.mapsOut == Program.mapsAmong Tryz.prog Tryz.f5.resultTypes.toList)=true:=by kernel_rfl
theorem fact17:(Rows.decodeTakesRow.loops == (Tryz.f5.params.toList++Rows.decodeTakesSpec.plain.varTypes Tryz.prog).any (Program.loopsFrom Tryz.prog ·))=true:=by kernel_rfl
theorem fact18:(Rows.decodeTakesRow.wideKeys == (Tryz.f5.params.toList++Rows.decodeTakesSpec.plain.varTypes Tryz.prog++Tryz.f5.resultTypes.toList).any (Program.wideKeysFrom Tryz.prog ·))=true:=by kernel_rfl
theorem fact19:Rows.decodeTakesSpec.vars.all (Program.varReadable Tryz.prog ·)=true:=by kernel_rfl
theorem fact20:Tryz.f5.resultTypes.all (fun t=>Program.readableRec Tryz.prog t&&decide (t<Tryz.prog.types.size))=true:=by kernel_rfl
theorem fact21:(Rows.decodeTakesRow.ifacesOut == Tryz.f5.resultTypes.toList.any (Program.ifacesRec Tryz.prog ·))=true:=by kernel_rfl
theorem fact22:(Rows.decodeTakesRow.loopsOut == Tryz.f5.resultTypes.toList.any (Program.loopsFrom Tryz.prog ·))=true:=by kernel_rfl
theorem fact23:(Rows.decodeTakesRow.plainKeys == Tryz.prog.plainKeys)=true:=by kernel_rfl
theorem fact24:Rows.decodeTakesRow.shortTexts.isNone=true:=by kernel_rfl
theorem fact25:Tryz.prog.stopsHeard=true:=by kernel_rfl
theorem fact26:Tryz.prog.mayEnter=true:=by kernel_rfl
theorem fact27:(Rows.decodeTakesRow.lifted == Tryz.prog.liftsFinal)=true:=by kernel_rfl
theorem fact28:(Program.make Tryz.prog == some Rows.decodeTakesRow.make)=true:=by kernel_rfl
theorem fact30:(Rows.decodeTakesRow.pinned == Rows.decodeTakesRow.pinnedBy)=true:=by kernel_rfl
theorem fact31:(Rows.decodeTakesRow.veiled == (Tryz.f5.params.toList++Rows.decodeTakesSpec.plain.varTypes Tryz.prog++Tryz.f5.resultTypes.toList).any (Program.veiledRec Tryz.prog ·))=true:=by kernel_rfl
theorem fact32:Rows.decodeTakesRow.veiledFits Tryz.prog Tryz.f5.params.toList (Tryz.f5.params.toList++Rows.decodeTakesSpec.plain.varTypes Tryz.prog++Tryz.f5.resultTypes.toList)=true:=by kernel_rfl
theorem facts:joinedFacts Tryz.prog 5 Tryz.f5 Rows.decodeTakesSpec Rows.decodeTakesRow=true:=by
 unfold joinedFacts
 simp only [Bool.and_eq_true]
 exact ⟨⟨⟨⟨⟨⟨⟨⟨⟨⟨⟨⟨⟨⟨⟨⟨⟨⟨⟨⟨⟨⟨⟨⟨⟨⟨⟨⟨⟨⟨⟨fact1,fact2⟩,fact3⟩,fact4⟩,fact5⟩,fact6⟩,fact7⟩,fact8⟩,fact9⟩,fact10⟩,fact11⟩,fact12⟩,fact13⟩,fact14⟩,fact15⟩,fact16⟩,fact17⟩,fact18⟩,fact19⟩,fact20⟩,fact21⟩,fact22⟩,fact23⟩,fact24⟩,fact25⟩,fact26⟩,fact27⟩,fact28⟩,(by kernel_rfl)⟩,fact30⟩,fact31⟩,fact32⟩
end Go.Proofs.YtgmdpfoccnalnaaGreatDoor.decodeTakesDone
