/- The symbolic walk, part 42: drawn regions whose tail may begin ahead of one move that comes late. -/
import Derived.Test.YtgmdpfoccnalnaaGreatDoorE2
import Derived.Laws.MakeOwn
import Derived.Laws.LoneSync
import Derived.Defers
import Derived.Test.YtgmdpfoccnalnaaGreatDoorE1
import Derived.Test.YtgmdpfoccnalnaaGreatDoorChecked
import Derived.KernelRfl
set_option linter.unusedSimpArgs false
set_option linter.unusedVariables false
namespace Go.Sy
open Go.RowKit

section
variable {P:Program} {T:Tab} {X:Ctx P T} {n:Nat} {e:Env} {st:St} {a:Act} {w:World} {ops:Array Oper} {K:St→Prop}

def seqB (ops:Array Oper):List Nat→Bool
 | []=>true
 | i::r=>r.all (fun j=>(predsB ops j).any (fun q=>(i::r).contains q))&&Nat.blt i ops.toList.length&&seqB ops r
def opsAt (ops:Array Oper) (L:List Nat):List Oper:=L.filterMap fun i=>ops.toList[i]?

theorem any_seq {Q:Exit→Act→World→Prop}:∀ (L:List Nat) (listed:Array Bool) (a:Act) (w:World),seqB ops L=true→L.Nodup→listed.size=ops.size →
  (∀ j,j<ops.size→(listed.getD j false=true↔j∉L))→(∀ i o,ops[i]?=some o→∀ e∈o.after,Region.binds .any e=true→e.on<i)→(∀ i o r1 r2,L=r1++i::r2→ops[i]?=some o→∀ e∈o.after,Region.binds .any e=true→e.on∉r2∧e.on≠i) →
  wpList P ops Q (opsAt ops L) a w→wpAny P .any ops Q L.length listed a w
 | [],listed,a,w,hs,hn,hsz,hl,hedge,ho,hw=>by
  refine ⟨?_,?_⟩
  ·cases hr:Region.ready .any ops listed with
   | nil=>rfl
   | cons j js =>
    exfalso
    have hmem:j∈Region.ready .any ops listed:=by rw [hr];simp
    rw [mem_ready] at hmem
    obtain ⟨h0,o,ho,_⟩:=hmem
    have hlt:j<ops.size:=(Array.getElem?_eq_some_iff.1 ho).1
    have:=(hl j hlt).2 (by simp)
    have hls:j<listed.size:=by omega
    simp [hls] at h0 this
    rw [h0] at this;cases this
  ·simpa [opsAt,wpList] using hw
 | i::r,listed,a,w,hs,hn,hsz,hl,hedge,ho,hw=>by
  simp only [seqB,Bool.and_eq_true,List.all_eq_true,List.any_eq_true] at hs
  obtain ⟨⟨hs1,hs2⟩,hs3⟩:=hs
  have hil:i<ops.size:=by simp [Nat.blt] at hs2;omega
  have hls:i<listed.size:=by omega
  have hoi:ops[i]?=some (ops.toList[i]'(by simpa using hil)):=by simp [hil]
  have hready:∀ j∈Region.ready .any ops listed,j=i:=by
   intro j hj
   rw [mem_ready] at hj
   obtain ⟨h0,o,ho',hp⟩:=hj
   have hlt:j<ops.size:=(Array.getElem?_eq_some_iff.1 ho').1
   have hjl:j<listed.size:=by omega
   have hin:j∈i::r:=by
    apply Classical.byContradiction
    intro hn'
    have:=(hl j hlt).2 hn'
    simp [hjl] at h0 this
    rw [h0] at this;cases this
   rcases List.mem_cons.1 hin with h|h
   ·exact h
   ·exfalso
    obtain ⟨q,hq1,hq2⟩:=hs1 j h
    obtain ⟨o',ho2,e,he,hb,hon⟩:=mem_preds hq1
    rw [ho'] at ho2
    cases ho2
    have h3:=hp e he hb
    rw [hon] at h3
    have hqlt:q<ops.size:=by
     have:=hedge j o ho' e he hb
     omega
    exact (hl q hqlt).1 h3 (by simpa using hq2)
  refine ⟨fun hr=>?_,fun j hj=>?_⟩
  ·exfalso
   have hmem:i∈Region.ready .any ops listed:=by
    rw [mem_ready]
    refine ⟨?_,_,hoi,fun e he hb=>?_⟩
    ·cases h:listed.getD i false with
     | true=>exact absurd (List.mem_cons_self ..) ((hl i hil).1 h)
     | false=>simp [hls] at h ⊢;exact h
    ·have h1:=hedge i _ hoi e he hb
     obtain ⟨h2,h3⟩:=ho i _ [] r rfl hoi e he hb
     exact (hl e.on (by omega)).2 (by simp [h2,h3])
   rw [hr] at hmem;cases hmem
  ·obtain rfl:=hready j hj
   have hnext:∀ a w,wpList P ops Q (opsAt ops r) a w→wpAny P .any ops Q r.length (listed.setIfInBounds j true) a w:=fun a w hw=>by
    refine any_seq r _ a w hs3 (List.nodup_cons.1 hn).2 (by simpa using hsz) (fun k hk=>?_) hedge (fun i' o' r1 r2 he hoi' ed hed hb=>ho i' o' (j::r1) r2 (by rw [he];rfl) hoi' ed hed hb) hw
    by_cases hkj:k=j
    ·subst hkj
     have hls:k<listed.size:=by omega
     simp [hls]
     exact (List.nodup_cons.1 hn).1
    ·rw [getD_set_ne false (Ne.symm hkj),hl k hk]
     simp [hkj]
   have hw2:wpList P ops Q (ops.toList[j]'(by simpa using hil)::opsAt ops r) a w:=by
    have:opsAt ops (j::r)=ops.toList[j]'(by simpa using hil)::opsAt ops r:=by
     simp [opsAt,hil]
    rw [← this];exact hw
   unfold wpOp
   rw [hoi]
   simp only [wpList] at hw2 ⊢
   split
   ·rename_i hwt
    rw [if_pos hwt] at hw2
    exact hw2.imp (Oper.wp_mono hnext) id
   ·rename_i hwt
    rw [if_neg hwt] at hw2
    exact hnext _ _ hw2

theorem any_seqS {Q:Exit→Act→World→Prop} (L:List Nat) (listed:Array Bool) (a:Act) (w:World) (hs:seqB ops L=true) (hn:L.Pairwise (· < ·)) (hsz:listed.size=ops.size)
  (hl:∀ j,j<ops.size→(listed.getD j false=true↔j∉L)) (hedge:∀ i o,ops[i]?=some o→∀ e∈o.after,Region.binds .any e=true→e.on<i)
  (hw:wpList P ops Q (opsAt ops L) a w):wpAny P .any ops Q L.length listed a w:=by
 refine any_seq L listed a w hs (hn.imp (fun h=>Nat.ne_of_lt h)) hsz hl hedge (fun i o r1 r2 he ho ed hed hb=>?_) hw
 have h1:=hedge i o ho ed hed hb
 subst he
 have h2:=List.pairwise_cons.1 (List.pairwise_append.1 hn).2.1
 refine ⟨fun hin=>?_,by omega⟩
 have:=h2.1 _ hin
 omega

def tailV (ops:Array Oper) (f m l:Nat):Bool :=
 Nat.blt m ops.toList.length&&Nat.blt l m&&(List.range m).all (fun j=>Nat.beq j l||(ancsB ops f m).contains j)&&!((ancsB ops f m).contains l)&&seqB ops (rng m ops.toList.length)&&seqB ops (l::rng (m+1) ops.toList.length)
where rng (a b:Nat):List Nat:=(List.range (b-a)).map (·+a)

theorem mem_rng {a b j:Nat}:j∈tailV.rng a b↔a≤j∧j<b:=by
 simp only [tailV.rng,List.mem_map,List.mem_range]
 constructor
 ·rintro ⟨i,h1,rfl⟩;omega
 ·rintro ⟨h1,h2⟩;exact ⟨j-a,by omega,by omega⟩
theorem sorted_rng (a b:Nat):(tailV.rng a b).Pairwise (· < ·):=by
 simp only [tailV.rng]
 exact List.pairwise_map.2 ((List.pairwise_lt_range).imp (fun h=>by omega))
theorem len_rng (a b:Nat):(tailV.rng a b).length=b-a:=by simp [tailV.rng]
theorem rng_cons {a b:Nat} (h:a<b):tailV.rng a b=a::tailV.rng (a+1) b:=by
 simp only [tailV.rng]
 rw [show b-a=(b-(a+1))+1 by omega,List.range_succ_eq_map]
 simp [Function.comp_def,Nat.add_assoc,Nat.add_comm 1 a]
theorem opsAt_rng:∀ (k m:Nat),m+k=ops.size→opsAt ops (tailV.rng m ops.size)=ops.toList.drop m
 | 0,m,h=>by
  have:tailV.rng m ops.size=[]:=by simp [tailV.rng,show ops.size-m=0 by omega]
  rw [this,List.drop_eq_nil_of_le (by simp;omega)];rfl
 | k+1,m,h=>by
  have hm:m<ops.toList.length:=by simp;omega
  rw [rng_cons (by omega),List.drop_eq_getElem_cons hm]
  have ih:=opsAt_rng k (m+1) (by omega)
  simp only [opsAt] at ih ⊢
  rw [List.filterMap_cons,List.getElem?_eq_getElem hm]
  simp only [ih]

def lessS (d:Nat) (s:St):St:=⟨s.s.filter (fun q=>!Nat.beq q.1 d),s.c⟩
theorem get_less {d:Nat}:∀ {l:List (Nat×AV)} {k:Nat} {y:AV},get (l.filter (fun q=>!Nat.beq q.1 d)) k=some y→k≠d∧get l k=some y
 | [],k,y,h=>by simp [get] at h
 | (j,x)::l,k,y,h=>by
  rw [List.filter_cons] at h
  by_cases hj:j=d
  ·subst hj
   simp at h
   obtain ⟨h1,h2⟩:=get_less (d:=j) (l:=l) (by simpa using h)
   refine ⟨h1,?_⟩
   rw [get_cons,if_neg (Ne.symm h1)];exact h2
  ·have:(!Nat.beq j d)=true:=by rw [Bool.not_eq_true',← Bool.not_eq_true];exact fun h=>hj (Nat.eq_of_beq_eq_true h)
   simp only [this,if_true] at h
   rw [get_cons] at h ⊢
   by_cases hk:j=k
   ·rw [if_pos hk] at h ⊢;exact ⟨by omega,h⟩
   ·rw [if_neg hk] at h ⊢
    exact get_less h

theorem any_of_DV {base:List (Nat×AV)} {c:List Ch} {D:Done} {Q:QX X} {m f l dl:Nat} (ht:tailV ops f m l=true) (hD:D.length=m)
  (hstep:∀ i o,i<m→ops[i]?=some o→∃ x,D[i]?=some (o.dst,x)∧StepD X n ops (availL (D.take i) o.after.toList base) c o x)
  (hedge:∀ i o,ops[i]?=some o→∀ e∈o.after,Region.binds .any e=true→e.on<i)
  (hdist:∀ (i j:Nat) o o' d,i<m→j<m→ops[i]?=some o→ops[j]?=some o'→o.dst=some d→o'.dst=some d→i=j)
  (hbase:∀ (i:Nat) o d,i<m→ops[i]?=some o→o.dst=some d→get base d=none)
  (hfin:∀ e a w,Rel X n e ⟨finS base D,c⟩ a w→wpList P ops Q (ops.toList.drop m) a w)
  (hdl:∀ o,ops[l]?=some o→o.dst=some dl) (hfin2:∀ e a w,Rel X n e (lessS dl ⟨finS base D,c⟩) a w→wpList P ops Q (opsAt ops (m::l::tailV.rng (m+1) ops.size)) a w) :
  ∀ (fuel:Nat) (listed:Array Bool) (a:Act) (w:World) (e:Env) (S:List (Nat×AV)),listed.size=ops.size→listed.toList.count false=fuel→Rel X n e ⟨S,c⟩ a w →
   (∀ j,m≤j→listed.getD j false=false)→ClosedL ops listed →
   (∀ k y,get base k=some y→get S k=some y)→(∀ (i:Nat) d x,listed.getD i false=true→D[i]?=some (some d,x)→get S d=some x) →
   wpAny P .any ops Q fuel listed a w:=by
 have ht':=ht
 unfold tailV at ht'
 simp only [Bool.and_eq_true,List.all_eq_true,List.mem_range,Array.length_toList,Bool.or_eq_true] at ht'
 obtain ⟨⟨⟨⟨⟨hm,hlm⟩,hcov⟩,hnl⟩,hch⟩,hch2⟩:=ht'
 have hlm':l<m:=by have h:=hlm;simp [Nat.blt] at h;omega
 have hm':m<ops.size:=by have h:=hm;simp [Nat.blt] at h;omega
 have cnt:∀ (l:List Bool) (k:Nat),k≤l.length→(∀ j,j<l.length→(l[j]?=some true↔j<k))→l.count false+k=l.length:=by
  intro l
  induction l with
  | nil=>intro k hk _;simp at hk;simp [hk]
  | cons b l ih =>
   intro k hk h
   cases k with
   | zero =>
    have hb:b=false:=by
     have:=h 0 (by simp)
     cases b
     ·rfl
     ·simp at this
    subst hb
    have:=ih 0 (Nat.zero_le _) (fun j hj=>by have:=h (j+1) (by simpa using hj);simpa using this)
    simp at this ⊢;omega
   | succ k =>
    have hb:b=true:=by
     have:=h 0 (by simp)
     simpa using this
    subst hb
    have:=ih k (by simpa using hk) (fun j hj=>by have:=h (j+1) (by simpa using hj);simpa using this)
    simp at this ⊢;omega
 intro fuel
 induction fuel with
 | zero =>
  intro listed a w e S hsz hc r hge hcl hb hs
  exfalso
  have h1:=hge m (Nat.le_refl _)
  have hls:m<listed.size:=by omega
  have:false∈listed.toList:=by
   simp [hls] at h1
   exact List.mem_iff_getElem.2 ⟨m,by simpa using hls,by simpa using h1⟩
  have:=List.count_pos_iff.2 this
  omega
 | succ fuel ih =>
  intro listed a w e S hsz hc r hge hcl hb hs
  by_cases hall:∀ j,j<m→listed.getD j false=true
  · -- all that is drawn is done
   have hlt:∀ j,j<ops.size→(listed.getD j false=true↔j<m):=fun j hj=>by
    constructor
    ·intro h
     rcases Nat.lt_or_ge j m with h1|h1
     ·exact h1
     ·rw [hge j h1] at h;cases h
    ·exact hall j
   have hcount:listed.toList.count false+m=ops.size:=by
    have:=cnt listed.toList m (by simp;omega) (fun j hj=>by
     have hjl:j<listed.size:=by simpa using hj
     have:=hlt j (by omega)
     simp [hjl] at this ⊢
     exact this)
    simpa [hsz] using this
   have hfu:fuel+1=(tailV.rng m ops.size).length:=by rw [len_rng];omega
   rw [hfu]
   refine any_seqS _ listed a w hch (sorted_rng _ _) hsz (fun j hj=>by rw [hlt j hj,mem_rng];omega) hedge ?_
   rw [opsAt_rng (ops.size-m) m (by omega)]
   refine hfin e a w (r.less (fun k y hk=>?_) id)
   rcases finS_get hk with ⟨i,hi⟩|h
   ·have hil:i<D.length:=by
     rcases Nat.lt_or_ge i D.length with h|h
     ·exact h
     ·rw [List.getElem?_eq_none h] at hi;cases hi
    exact hs i k y (hall i (by omega)) hi
   ·exact hb k y h
  -- what may come up now is drawn
  have hgt:∀ i,m<i→i<ops.size→∀ o,ops[i]?=some o→(∀ e∈o.after,Region.binds .any e=true→listed.getD e.on false=true)→False:=by
   intro i h hlt o ho hpre
   rw [rng_cons hm'] at hch
   simp only [seqB,Bool.and_eq_true,List.all_eq_true,List.any_eq_true] at hch
   obtain ⟨q,hq1,hq2⟩:=hch.1.1 i (mem_rng.2 ⟨h,hlt⟩)
   obtain ⟨o',ho',ed,he,hbb,hon⟩:=mem_preds hq1
   rw [ho] at ho';cases ho'
   have h5:=hpre ed he hbb
   rw [hon] at h5
   have:m≤q:=by
    have hq3:=hq2
    simp only [List.contains_iff_mem,List.mem_cons,mem_rng] at hq3
    omega
   rw [hge q this] at h5;cases h5
  have hlow:∀ i∈Region.ready .any ops listed,¬ (i=m∧∀ j,j<m→j≠l→listed.getD j false=true)→i<m:=by
   intro i hi hne
   rw [mem_ready] at hi
   obtain ⟨h0,o,ho,hpre⟩:=hi
   rcases Nat.lt_or_ge i m with h|h
   ·exact h
   ·exfalso
    have hlt:i<ops.size:=(Array.getElem?_eq_some_iff.1 ho).1
    rcases Nat.eq_or_lt_of_le h with h|h
    ·subst h
     refine hne ⟨rfl,fun j hj hjl=>?_⟩
     have hc:=hcov j hj
     rcases hc with hc|hc
     ·exact absurd (Nat.eq_of_beq_eq_true hc) hjl
     rw [List.contains_iff_mem] at hc
     refine ancs_listed hcl f m (fun q hq=>?_) j hc
     obtain ⟨o',ho',ed,he,hbb,rfl⟩:=mem_preds hq
     rw [ho] at ho';cases ho'
     exact hpre ed he hbb
    ·exact hgt i h hlt o ho hpre
  refine ⟨fun hr=>?_,fun i hi=>?_⟩
  ·exfalso
   refine hall (fun j=>?_)
   induction j using Nat.strongRecOn with
   | ind j ihj =>
    intro hj
    cases hl:listed.getD j true with
    | true =>
     have:j<listed.size:=by omega
     simp [this] at hl ⊢
     exact hl
    | false =>
     exfalso
     have hmem:j∈Region.ready .any ops listed:=by
      rw [mem_ready]
      refine ⟨hl,ops[j],by simp [show j<ops.size by omega],fun e he hbb=>?_⟩
      have h1:=hedge j ops[j] (by simp [show j<ops.size by omega]) e he hbb
      exact ihj e.on h1 (by omega)
     rw [hr] at hmem;cases hmem
  ·by_cases hcase:i=m∧∀ j,j<m→j≠l→listed.getD j false=true
   · -- the tail begins, that move is still to come
    obtain ⟨rfl,hothers⟩:=hcase
    have hln:listed.getD l false=false:=by
     cases h:listed.getD l false with
     | false=>rfl
     | true=>exact absurd (fun j hj=>by
      by_cases hjl:j=l
      ·rw [hjl];exact h
      ·exact hothers j hj hjl) hall
    have hw2:=hfin2 e a w (r.less (fun k y hk=>by
     obtain ⟨hkd,hk⟩:=get_less hk
     rcases finS_get hk with ⟨q,hq⟩|h
     ·have hql:q<D.length:=by
       rcases Nat.lt_or_ge q D.length with h|h
       ·exact h
       ·rw [List.getElem?_eq_none h] at hq;cases hq
      refine hs q k y (hothers q (by omega) (fun hh=>?_)) hq
      subst hh
      have hqs:q<ops.size:=by omega
      obtain ⟨x,hx,_⟩:=hstep q ops[q] hlm' (by simp [hqs])
      rw [hq] at hx
      simp only [Option.some.injEq,Prod.mk.injEq] at hx
      have:=hdl ops[q] (by simp [hqs])
      rw [this] at hx
      simp only [Option.some.injEq] at hx
      exact hkd hx.1
     ·exact hb k y h) id)
    have hil:i<ops.size:=hm'
    have hls:l<ops.size:=by omega
    have hoi:ops[i]?=some (ops.toList[i]'(by simpa using hil)):=by simp [hil]
    have hcf:fuel=(l::tailV.rng (i+1) ops.size).length:=by
     have hls':l<(listed.setIfInBounds l true).toList.length:=by simp;omega
     have h1:=cnt (listed.setIfInBounds l true).toList i (by simp;omega) (fun j hj=>by
      have hjl:j<listed.size:=by simpa using hj
      by_cases hjj:l=j
      ·subst hjj;simp [hjl];omega
      ·simp only [Array.toList_setIfInBounds,List.getElem?_set_ne hjj]
       constructor
       ·intro h
        rcases Nat.lt_or_ge j i with h1|h1
        ·exact h1
        ·have:=hge j h1
         simp [hjl] at h this;rw [h] at this;cases this
       ·intro h
        have:=hothers j h (Ne.symm hjj)
        simp [hjl] at this ⊢;exact this)
     rw [Array.toList_setIfInBounds,List.count_set (by simp;omega)] at h1
     have hg:listed.toList[l]'(by simp;omega)=false:=by
      simp [show l<listed.size by omega] at hln;simpa using hln
     have hpos:0<listed.toList.count false:=List.count_pos_iff.2 (hg▸List.getElem_mem _)
     simp [hg] at h1 hc
     simp only [List.length_cons,len_rng]
     omega
    have hnext:∀ a w,wpList P ops Q (opsAt ops (l::tailV.rng (i+1) ops.size)) a w→wpAny P .any ops Q fuel (listed.setIfInBounds i true) a w:=fun a w hw=>by
     rw [hcf]
     refine any_seqS _ _ a w hch2 (List.pairwise_cons.2 ⟨fun j hj=>by rw [mem_rng] at hj;omega,sorted_rng _ _⟩) (by simpa using hsz) (fun j hj=>?_) hedge hw
     by_cases hji:i=j
     ·subst hji
      have:i<listed.size:=by omega
      simp only [List.mem_cons,mem_rng]
      simp [this];omega
     ·rw [getD_set_ne false hji]
      simp only [List.mem_cons,mem_rng]
      constructor
      ·intro h
       rcases Nat.lt_or_ge j i with h1|h1
       ·rintro (h2|h2)
        ·subst h2;rw [hln] at h;cases h
        ·omega
       ·rw [hge j h1] at h;cases h
      ·intro h
       exact hothers j (by omega) (fun hh=>h (.inl hh))
    have hw3:wpList P ops Q (ops.toList[i]'(by simpa using hil)::opsAt ops (l::tailV.rng (i+1) ops.size)) a w:=by
     have:opsAt ops (i::l::tailV.rng (i+1) ops.size)=ops.toList[i]'(by simpa using hil)::opsAt ops (l::tailV.rng (i+1) ops.size):=by
      simp [opsAt,hil]
     rw [← this];exact hw2
    unfold wpOp
    rw [hoi]
    simp only [wpList] at hw3 ⊢
    split
    ·rename_i hwt
     rw [if_pos hwt] at hw3
     exact hw3.imp (Oper.wp_mono hnext) id
    ·rename_i hwt
     rw [if_neg hwt] at hw3
     exact hnext _ _ hw3
   have him:=hlow i hi hcase
   rw [mem_ready] at hi
   obtain ⟨h0,o,ho,hpre⟩:=hi
   have hlt:i<ops.size:=(Array.getElem?_eq_some_iff.1 ho).1
   have hlf:listed.toList[i]?=some false:=by
    have:i<listed.size:=by omega
    simp [this] at h0 ⊢
    exact h0
   obtain ⟨x,hx,hst⟩:=hstep i o him ho
   unfold wpOp
   simp only [ho]
   refine hst e a w S _ Q r (fun k y hk=>?_) (fun e' a' w' r'=>?_)
   ·rcases availL_get hk with ⟨ed,h1,h2,h3⟩|h
    ·have h4:D[ed.on]?=some (some k,y):=by
      rw [List.getElem?_take] at h3
      split at h3
      ·exact h3
      ·cases h3
     exact hs ed.on k y (hpre ed (by simpa using h1) h2) h4
    ·exact hb k y h
   ·refine ih (listed.setIfInBounds i true) a' w' e' _ (by simpa using hsz) ?_ r' (fun j hj=>?_) (fun j oj hj hoj ed he hbb=>?_) (fun k y hk=>?_) (fun j d y hj hy=>?_)
    ·rw [Array.toList_setIfInBounds]
     have hlt':i<listed.toList.length:=by simpa using (by omega:i<listed.size)
     have hg:listed.toList[i]=false:=by
      have:=List.getElem?_eq_getElem hlt'
      rw [hlf] at this
      simpa using this.symm
     rw [List.count_set hlt',hg,hc]
     simp
    ·rw [getD_set_ne false (by omega:i≠j)]
     exact hge j hj
    ·by_cases hei:ed.on=i
     ·have hls:i<listed.size:=by omega
      rw [hei];simp [hls]
     ·rw [getD_set_ne false (Ne.symm hei)]
      by_cases hji:j=i
      ·subst hji
       rw [ho] at hoj;cases hoj
       exact hpre ed he hbb
      ·rw [getD_set_ne false (Ne.symm hji)] at hj
       exact hcl j oj hj hoj ed he hbb
    ·cases hd:o.dst with
     | none=>exact hb k y hk
     | some d =>
      simp only [putS]
      rw [get_cons]
      by_cases h:d=k
      ·subst h
       rw [hbase i o d him ho hd] at hk
       cases hk
      ·rw [if_neg h];exact hb k y hk
    ·by_cases hji:j=i
     ·subst hji
      rw [hx] at hy
      simp only [Option.some.injEq,Prod.mk.injEq] at hy
      rw [hy.1,hy.2]
      simp only [putS]
      rw [get_cons,if_pos rfl]
     ·rw [getD_set_ne false (Ne.symm hji)] at hj
      have hold:=hs j d y hj hy
      cases hd:o.dst with
      | none=>exact hold
      | some d' =>
       simp only [putS]
       rw [get_cons]
       by_cases h:d'=d
       ·exfalso
        subst h
        have hjl:j<m:=by
         rw [← hD]
         rcases Nat.lt_or_ge j D.length with h|h
         ·exact h
         ·rw [List.getElem?_eq_none h] at hy;cases hy
        obtain ⟨x',hx',_⟩:=hstep j ops[j] hjl (by simp [show j<ops.size by omega])
        rw [hx'] at hy
        simp only [Option.some.injEq,Prod.mk.injEq] at hy
        exact hji (hdist j i ops[j] o d' hjl him (by simp [show j<ops.size by omega]) ho hy.1 hd)
       ·rw [if_neg h];exact hold

def dstB (ops:Array Oper) (l dl:Nat):Bool:=match ops.toList[l]? with
 | some o=>(match o.dst with
  | some d=>Nat.beq d dl
  | none=>false)
 | none=>false
theorem C_drawV (f m l dl:Nat) {id:Nat} {Q:Exit→St→Prop} {s base:List (Nat×AV)} {c:List Ch} (hb:eraseD (ops.toList.take m) s=some base) (hchk:chkD base 0 [] (ops.toList.take m)=true) (hed:edgesB ops=true)
  (ht:tailV ops f m l=true) (hdl:dstB ops l dl=true) (h:SymD X n ops base c (fun s=>SymO X n ops (ops.toList.drop m) s (fun s=>Q .normal s)∧SymO X n ops (opsAt ops (m::l::tailV.rng (m+1) ops.size)) (lessS dl s) (fun s=>Q .normal s)) (ops.toList.take m) []):SymC X n (.region id ops true) ⟨s,c⟩ Q:=by
 intro e a w r
 have hbs:∀ k y,get base k=some y→get s k=some y:=fun k y hk=>eraseD_get hb hk
 obtain ⟨D,_,hl,hK,hs⟩:=h.plan
 obtain ⟨c1,c2⟩:=chkD_spec hchk
 have hbel:Below w.heap.size w { w with drawn:=w.drawn+1 }:=⟨rfl,rfl,rfl,Nat.le_refl _,fun _ _=>rfl⟩
 have hm:m<ops.size:=by
  unfold tailV at ht
  simp only [Bool.and_eq_true] at ht
  have h1:=ht.1.1.1.1.1
  simp [Nat.blt] at h1;omega
 have htk:∀ (i:Nat) (o:Oper),i<m→ops[i]?=some o→(ops.toList.take m)[i]?=some o:=fun i o him ho=>by rw [List.getElem?_take,if_pos him];simpa using ho
 refine wp_region_any X.wide ?_
 refine any_of_DV (X:=X) (Q:=concX X n Q) (n:=n) (base:=base) (c:=c) (D:=D) (f:=f) (m:=m) (l:=l) (dl:=dl) ht (by simp at hl;omega) (fun i o him ho=>?_) (fun i o ho=>?_) (fun i j o o' d him hjm hi hj=>c2 i j o o' d (htk i o him hi) (htk j o' hjm hj)) (fun i o d him ho hd=>((c1 i o (htk i o him ho)).2 d hd).1)
  (fun e a w r=>hK.1 e a w (concX X n Q) r fun e' st' _ _ hk hr=>⟨e',st',hr,hk⟩) (fun o ho=>?_) (fun e a w r=>hK.2 e a w (concX X n Q) r fun e' st' _ _ hk hr=>⟨e',st',hr,hk⟩) _ _ a _ e base (by simp) (by simp) ((r.below hbel).less hbs (fun h=>h)) (fun j hj=>?_) (fun j o hj=>?_) (fun k y hk=>hk) (fun i d x hi=>?_)
 ·have:=hs i o (htk i o him ho)
  simpa using this
 ·intro ed he hb'
  have hi:i<ops.toList.length:=by
   have:=(Array.getElem?_eq_some_iff.1 ho).1
   simpa using this
  have h1:=List.all_eq_true.1 hed i (List.mem_range.2 hi)
  have h2:=List.all_eq_true.1 h1 ed.on (by
   unfold predsB
   rw [show ops.toList[i]?=some o by simpa using ho]
   exact List.mem_map.2 ⟨ed,List.mem_filter.2 ⟨by simpa using he,hb'⟩,rfl⟩)
  simp [Nat.blt] at h2;omega
 ·unfold dstB at hdl
  rw [show ops.toList[l]?=some o by simpa using ho] at hdl
  split at hdl
  ·rename_i o' ho'
   cases ho'
   split at hdl
   ·rename_i d hd;rw [hd,Nat.eq_of_beq_eq_true hdl]
   ·cases hdl
  ·cases hdl
 ·rcases Nat.lt_or_ge j ops.size with h|h
  ·simp [h]
  ·simp [Nat.not_lt.2 h]
 ·rcases Nat.lt_or_ge j ops.size with h|h
  ·simp [h] at hj
  ·simp [Nat.not_lt.2 h] at hj
 ·rcases Nat.lt_or_ge i ops.size with h|h
  ·simp [h] at hi
  ·simp [Nat.not_lt.2 h] at hi
end
end Go.Sy

namespace Go.Sy
open Go.RowKit Go.MapKept

section
variable {P:Program} {T:Tab} {X:Ctx P T} {n:Nat} {e:Env} {st:St} {a:Act} {w:World} {ops:Array Oper} {K:St→Prop}

def repA (x:AV) (v:Value):Abs:=⟨[],fun G _=>RepI G x v,fun hG _ h=>RepI.mono hG x h⟩

theorem Le.fr (q:Nat) {A A':Abs} {s:List (Nat×AV)} {c cr:List Ch} (hp:nthA q c=some (A,cr)) (hbs:A'.bs=[])
  (h:∀ (G:IM) (w:World),A.ok G w→(∀ b∈A.bs,b<w.heap.size∧G.free b)→∃ G':IM,IM.le G G'∧(∀ b o v,G' b o=some v→G b o=some v∨(b∈A.bs∧w.cell? ⟨b,o,none⟩=some v))∧(∀ b x,G'.m b=some x→G.m b=some x∨(b∈A.bs∧MzOK G' w b x))∧A'.ok G' w) :
  Le X n ⟨s,c⟩ ⟨s,.abs A'::cr⟩:=fun e a w r=>by
 have hh:=(r.heap.perm (by simpa using nthA_perm hp:c.Perm ([A].map Ch.abs++cr))).absOK
 have hb1:blocks [A]=A.bs:=by simp [blocks]
 have hb2:blocks [A']=[]:=by simp [blocks,hbs]
 obtain ⟨⟨k1,k2,k3⟩,k4⟩:=hh
 rw [hb1] at k2 k3 k4
 obtain ⟨G',g1,g2,g3,g4⟩:=h e.G w (k1 A (by simp)) k3
 refine ⟨⟨G',e.μ,e.hd⟩,r.swapAbs (st:=⟨s,c⟩) (As:=[A]) (As':=[A']) (G':=G') (w':=w) (by simpa using nthA_perm hp) g1 ⟨?_,?_⟩ ⟨?_,?_⟩ ⟨?_,by rw [hb2];simp,by rw [hb2];simp⟩ (by rw [hb2];simp) ⟨rfl,rfl,rfl⟩ (Nat.le_refl _) (fun _ _ _ _=>rfl)⟩
 ·intro b o v hv
  rcases g2 b o v hv with h|h
  ·exact r.im b o v h
  ·exact h.2
 ·intro b x hx
  rcases g3 b x hx with h|h
  ·refine (r.mz b x h).keep g1 rfl (fun o v hv=>?_)
   rcases g2 b o v hv with k|k
   ·exact ⟨v,k⟩
   ·have:=(k3 b k.1).2.2;rw [this] at h;cases h
  ·exact h.2
 ·intro b o v hv
  rcases g2 b o v hv with h|h
  ·exact .inl h
  ·exact .inr (.inr (by rw [hb1];exact h.1))
 ·intro b x hx
  rcases g3 b x hx with h|h
  ·exact .inl h
  ·exact .inr (.inr (by rw [hb1];exact h.1))
 ·intro B hB
  simp only [List.mem_singleton] at hB
  subst hB;exact g4

theorem Le.frBox (q:Nat) {b:Nat} {t:TypeId} {cells:List AV} {s:List (Nat×AV)} {c cr:List Ch} (hp:nthA q c=some (boxA b t cells,cr)) :
  Le X n ⟨s,c⟩ ⟨s,.abs (repA (.cp cells) (.pointer (some ⟨b,0,none⟩)))::cr⟩:=by
 refine Le.fr q hp rfl ?_
 rintro G w ⟨arr,h1,h2⟩ hb
 have hf:=hb b (by simp [boxA])
 let G':IM:=⟨fun b' o=>if b'=b then arr.toList[o]? else G b' o,G.m⟩
 have hle:IM.le G G':=by
  refine ⟨?_,fun _ _ h=>h⟩
  intro b' o v hv
  show (if b'=b then arr.toList[o]? else G b' o)=some v
  rw [if_neg]
  ·exact hv
  ·rintro rfl;rw [hf.2.1 o] at hv;cases hv
 refine ⟨G',hle,?_,fun _ _ h=>.inl h,?_⟩
 ·intro b' o v hv
  have hv':(if b'=b then arr.toList[o]? else G b' o)=some v:=hv
  split at hv'
  ·rename_i hbb;subst hbb
   refine .inr ⟨by simp [boxA],?_⟩
   rw [cell_of_row w b' o arr t (0,0) h1];simpa using hv'
  ·exact .inl hv'
 ·simp only [repA,RepI]
  refine ⟨b,0,rfl,CellsAt.mk (fun j c hc=>?_)⟩
  obtain ⟨z,z1,z2,z3⟩:=h2.get j c hc
  refine ⟨z,?_,RepI.mono hle _ z2,z3⟩
  show (if b=b then arr.toList[0+j]? else G b (0+j))=some z
  rw [if_pos rfl,Nat.zero_add];exact z1

theorem Le.frMap (q:Nat) {α:Type} {kv:α→Value} {b:Nat} {es:List (α×AV)} {s:List (Nat×AV)} {c cr:List Ch} (hp:nthA q c=some (mapA kv (some b) es,cr)) :
  Le X n ⟨s,c⟩ ⟨s,.abs (repA (.mapI (es.map (fun q=>kv q.1)) (es.map (·.2))) (.map (some b)))::cr⟩:=by
 refine Le.fr q hp rfl ?_
 rintro G w ⟨arr,cl,h1,h2,h3,h4,h5⟩ hb
 have hf:=hb b (by simp [mapA])
 let G':IM:=⟨G.c,fun b'=>if b'=b then some (.map (arr.toList.map (fun e=>(e.key,e.val)))) else G.m b'⟩
 have hle:IM.le G G':=by
  refine ⟨fun _ _ _ h=>h,?_⟩
  intro b' x hx
  show (if b'=b then _ else G.m b')=some x
  rw [if_neg]
  ·exact hx
  ·rintro rfl;rw [hf.2.2] at hx;cases hx
 refine ⟨G',hle,fun _ _ _ h=>.inl h,?_,?_⟩
 ·intro b' x hx
  have hx':(if b'=b then some (MZ.map (arr.toList.map (fun e=>(e.key,e.val)))) else G.m b')=some x:=hx
  split at hx'
  ·rename_i hbb;subst hbb
   cases hx'
   exact .inr ⟨by simp [mapA],arr,cl,h1,rfl⟩
  ·exact .inl hx'
 ·simp only [repA,RepI]
  refine ⟨b,arr.toList.map (·.val),rfl,?_,?_,RepIT.mono hle _ h3⟩
  ·show (if b=b then some (MZ.map (arr.toList.map (fun e=>(e.key,e.val)))) else G.m b)=_
   rw [if_pos rfl,← h2]
   congr 2
   rw [List.zip_map']
  ·rw [← h2];simp

theorem Le.frSlO (q:Nat) {h:Value} {t:TypeId} {esz m:Nat} {cells:List AV} {s:List (Nat×AV)} {c cr:List Ch} (row:Nat→List AV) (hp:nthA q c=some (slO h t esz cells,cr)) (hlen:cells.length=m*esz) (hpos:0<esz)
  (hrow:∀ i,i<m→row i=(cells.drop (i*esz)).take esz):Le X n ⟨s,c⟩ ⟨s,.abs (repA (.sl m esz row) h)::cr⟩:=by
 refine Le.fr q hp rfl ?_
 rintro G w ⟨m',h1,h2⟩ hb
 obtain rfl:m'=m:=by
  rw [h1] at hlen
  exact Nat.eq_of_mul_eq_mul_right hpos hlen
 rcases h2 with ⟨rfl,rfl⟩|⟨g,o,cc,cur,rfl,k1,k2,k3,k4,k5⟩
 ·refine ⟨G,IM.le_refl _,fun _ _ _ h=>.inl h,fun _ _ h=>.inl h,?_⟩
  simp only [repA,RepI]
  exact ⟨none,0,rfl,Nat.le_refl _,.inl trivial⟩
 ·have hf:=hb g (by simp [slO,Value.ownBlock])
  let G':IM:=⟨fun b' o'=>if b'=g then cur[o']? else G b' o',G.m⟩
  have hle:IM.le G G':=by
   refine ⟨?_,fun _ _ h=>h⟩
   intro b' o' v hv
   show (if b'=g then cur[o']? else G b' o')=some v
   rw [if_neg]
   ·exact hv
   ·rintro rfl;rw [hf.2.1 o'] at hv;cases hv
  refine ⟨G',hle,?_,fun _ _ h=>.inl h,?_⟩
  ·intro b' o' v hv
   have hv':(if b'=g then cur[o']? else G b' o')=some v:=hv
   split at hv'
   ·rename_i hbb;subst hbb
    refine .inr ⟨by simp [slO,Value.ownBlock],?_⟩
    rw [cell_of_row w b' o' cur t (0,0) k3];exact hv'
   ·exact .inl hv'
  ·simp only [repA,RepI]
   refine ⟨some ⟨g,o,none⟩,cc,rfl,k1,.inr ⟨g,o,rfl,fun i hi=>CellsAt.mk (fun j c hc=>?_)⟩⟩
   rw [hrow i hi] at hc
   have hj:j<esz:=by
    rcases Nat.lt_or_ge j esz with h|h
    ·exact h
    ·rw [List.getElem?_eq_none (by simp;omega)] at hc;cases hc
   rw [List.getElem?_take,if_pos hj,List.getElem?_drop] at hc
   obtain ⟨z,z1,z2,z3⟩:=k5.get _ c hc
   have hlt:i*esz+j<m'*esz:=by
    have:(i+1)*esz≤m'*esz:=Nat.mul_le_mul_right _ hi
    rw [Nat.add_mul] at this;omega
   rw [List.getElem?_take,if_pos hlt,List.getElem?_drop] at z1
   refine ⟨z,?_,RepI.mono hle _ z2,z3⟩
   show (if g=g then cur[o+i*esz+j]? else G g (o+i*esz+j))=some z
   rw [if_pos rfl,Nat.add_assoc];simpa using z1

theorem Le.slotA (q i:Nat) {x:AV} {v:Value} {s:List (Nat×AV)} {c cr:List Ch} (hi:get s i=some (.v v)) (hp:nthA q c=some (repA x v,cr)):Le X n ⟨s,c⟩ ⟨(i,x)::s,c⟩:=fun e a w r=>by
 obtain ⟨hok,_⟩:=r.heap.nth hp
 obtain ⟨u,h1,h2⟩:=r.slots i _ hi
 simp only [Rep] at h2
 subst h2
 refine ⟨e,{ r with slots:=fun j y hy=>?_ }⟩
 rw [get_cons] at hy
 by_cases hj:i=j
 ·subst hj
  rw [if_pos rfl] at hy;cases hy
  exact ⟨_,h1,RepI.toRep x hok⟩
 ·rw [if_neg hj] at hy
  exact r.slots j y hy

theorem repIL_set {G:IM}:∀ {cs:List AV} {vs:List Value} (j:Nat) {x:AV} {v:Value},RepIL G cs vs→cs[j]?=some (.v v)→RepI G x v→RepIL G (cs.set j x) vs
 | [],vs,j,x,v,h,hj,hx=>by simp at hj
 | c::cs,vs,j,x,v,h,hj,hx=>by
  simp only [RepIL] at h
  obtain ⟨z,zs,rfl,h1,h2,h3⟩:=h
  cases j with
  | zero =>
   simp only [List.getElem?_cons_zero,Option.some.injEq] at hj
   subst hj
   simp only [RepI] at h1
   subst h1
   simp only [List.set_cons_zero,RepIL]
   exact ⟨z,zs,rfl,hx,h2,h3⟩
  | succ j =>
   simp only [List.set_cons_succ,RepIL]
   exact ⟨z,zs,rfl,h1,h2,repIL_set j h3 (by simpa using hj) hx⟩
theorem Le.cellA (q1 q2 j:Nat) {b:Nat} {t:TypeId} {cells:List AV} {x:AV} {v:Value} {s:List (Nat×AV)} {c cr:List Ch} (hp:pickA [q1,q2] c=some ([boxA b t cells,repA x v],cr)) (hj:cells[j]?=some (.v v)) :
  Le X n ⟨s,c⟩ ⟨s,.abs (boxA b t (cells.set j x))::cr⟩:=by
 refine Le.absPerm (As:=[boxA b t cells,repA x v]) (As':=[boxA b t (cells.set j x)]) (by simpa using pickA_perm hp) (by simp [blocks,boxA,repA]) ?_
 intro G w h B hB
 simp only [List.mem_singleton] at hB
 subst hB
 obtain ⟨arr,h1,h2⟩:=h (boxA b t cells) (by simp)
 exact ⟨arr,h1,repIL_set j h2 hj (h (repA x v) (by simp))⟩

abbrev mapE {α:Type} (kv:α→Value) (es:List (α×AV)):AV:=.mapI (es.map fun q=>kv q.1) (es.map (·.2))

theorem X_lookS (q:Nat) {α:Type} [DecidableEq α] {kt et mt:TypeId} (K:Key P kt α) {p:Pl} {mo:Option Nat} {es:List (α×AV)} {m x:Operand} {d:Option Nat} {k:α} {zv:Value} {z:AV} {commaOk:Bool} {pi:TypeInfo} {ty:TypeId} {pos:String} {aft:Array Edge} {gd:Option (Nat×Bool)} {j:Nat} {Si:List (Nat×AV)} {c cr:List Ch}
  (hm:P.underlying mt=some (.map kt et)) (hpi:P.info? et=some pi) (hz:pi.zero=some zv) (hzr:∀ e:Env,Rep e z zv) (hzi:z.imm=true)
  {kx:AV} (hkx:∀ (e:Env) (v:Value),Rep e kx v→v=K.kv k)
  (hg:guardA ops ⟨Si,c⟩ ⟨d,.lookup mt m x commaOk,ty,pos,aft,gd⟩=some true) (hmo:opd Si m=some (.v (.map mo))) (hx:opd Si x=some kx) (hp:nthA q c=some (mapA K.kv mo es,cr)) (hd:dstOK n d=true) :
  StepX X n ops p Si c c j ⟨d,.lookup mt m x commaOk,ty,pos,aft,gd⟩ (lookAV commaOk (lookE k es) z) :=
 StepX.val hg hd (fun e a w S r r'=>by
  have h1:=opd_sound r' hmo
  have h2:=hkx _ _ (opd_sound r' hx)
  simp only [Rep] at h1
  obtain ⟨hok,_⟩:=r.heap.nth hp
  have hzero:(zeroValue et).run P w=.ok zv w:=by simp [zeroValue,typeInfo,hpi,hz]
  have key:∃ v,Rep e ((lookE k es).getD z) v∧(Instr.lookup mt (.map mo) (K.kv k) commaOk).run P w=.ok (if commaOk then .tuple #[v,.bool (lookE k es).isSome] else v) w:=by
   cases mo with
   | none =>
    have hes:es=[]:=hok
    subst hes
    have hf:(Instr.findKey kt (K.kv k) []).run P w=.ok none w:=run_findKey K.hd rfl
    refine ⟨zv,hzr e,?_⟩
    simp [Instr.lookup,run_underlying hm,run_checkKey K.hd (K.ik k),hf,hzero,lookE]
   | some b =>
    obtain ⟨arr,cl,g1,g2,g3,g4⟩:=hok
    rcases find_map K e.G k arr.toList es 0 g2 g3 with ⟨f1,f2⟩|⟨jj,en,xx,f1,f2,f3,f4,f5,_⟩
    ·have hf:=run_findKey (w:=w) K.hd f1
     refine ⟨zv,by rw [f2];exact hzr e,?_⟩
     simp [Instr.lookup,run_underlying hm,MapKept.run_getObj_map g1,run_checkKey K.hd (K.ik k),hf,hzero,f2]
    ·have hf:=run_findKey (w:=w) K.hd f1
     refine ⟨en.val,by rw [f4];exact RepI.toRep xx f5,?_⟩
     simp [Instr.lookup,run_underlying hm,MapKept.run_getObj_map g1,run_checkKey K.hd (K.ik k),hf,f4]
  obtain ⟨v,k1,k2⟩:=key
  refine ⟨if commaOk then .tuple #[v,.bool (lookE k es).isSome] else v,w,e,by simp only [execOp,h1,h2,Sem.run_bind,k2,Result.andThen_ok,Sem.run_pure],r,?_⟩
  cases commaOk with
  | false=>simpa [lookAV] using k1
  | true=>simp only [lookAV,cond_true,if_true,Rep,RepT];exact ⟨_,rfl,_,_,rfl,k1,_,_,rfl,rfl,rfl⟩)

theorem X_updS (q:Nat) {α:Type} [DecidableEq α] {kt et mt:TypeId} (K:Key P kt α) {p:Pl} {b:Nat} {es:List (α×AV)} {m x y:Operand} {k:α} {av:AV} {ty:TypeId} {pos:String} {aft:Array Edge} {gd:Option (Nat×Bool)} {j:Nat} {Si:List (Nat×AV)} {c cr:List Ch}
  (hm:P.underlying mt=some (.map kt et)) (hsb:∀ k,Instr.sameBits 10000 (K.kv k) (K.kv k)=true)
  {kx:AV} (hkx:∀ (e:Env) (v:Value),Rep e kx v→v=K.kv k)
  (hg:guardA ops ⟨Si,c⟩ ⟨none,.mapUpdate mt m x y,ty,pos,aft,gd⟩=some true) (hmo:opd Si m=some (.v (.map (some b)))) (hx:opd Si x=some kx) (hy:opd Si y=some av) (himm:av.imm=true) (hp:nthA q c=some (mapA K.kv (some b) es,cr)) :
  StepX X n ops p Si c (.abs (mapA K.kv (some b) (updE k av es))::cr) j ⟨none,.mapUpdate mt m x y,ty,pos,aft,gd⟩ .bad :=
 StepX.skip hg rfl (fun e a w S r r'=>by
  have h1:=opd_sound r' hmo
  have h2:=hkx _ _ (opd_sound r' hx)
  have h3:=opd_sound r' hy
  simp only [Rep] at h1
  obtain ⟨⟨arr,cl,g1,g2,g3,g4,g5⟩,_⟩:=r.heap.nth hp
  have hlt:b<w.heap.size:=(Array.getElem?_eq_some_iff.1 g1).1
  have fin:∀ (arr':Array MapEntry) (cl':Nat),(Instr.mapUpdate mt (.map (some b)) (K.kv k) (a.eval y)).run P w=.ok () { w with heap:=w.heap.setIfInBounds b (.map arr' cl') } →
    arr'.toList.map (·.key)=(updE k av es).map (fun q=>K.kv q.1)→RepIT e.G ((updE k av es).map (·.2)) (arr'.toList.map (·.val))→(arr'.toList.map (·.born)).Nodup→(∀ x∈arr'.toList,x.born<cl') →
    ∃ w' e',(execOp a.eval ⟨none,.mapUpdate mt m x y,ty,pos,aft,gd⟩).run P w=.ok .skip w'∧Rel X n e' ⟨S,.abs (mapA K.kv (some b) (updE k av es))::cr⟩ a w':=by
   intro arr' cl' hrun k1 k2 k3 k4
   refine ⟨{ w with heap:=w.heap.setIfInBounds b (.map arr' cl') },e,by simp only [execOp,h1,h2,Sem.run_bind,hrun,Result.andThen_ok,Sem.run_pure],r.absTurn (st:=⟨S,c⟩) hp rfl ⟨arr',cl',by simp [hlt],k1,k2,k3,k4⟩ (fun b' hb'=>?_) ⟨rfl,rfl,rfl⟩ (by simp)⟩
   have hne:b≠b':=fun hh=>hb' (by subst hh;simp [mapA])
   simp [hne]
  rcases find_map K e.G k arr.toList es 0 g2 g3 with ⟨f1,f2⟩|⟨jj,en,xx,f1,f2,f3,f4,f5,f6⟩
  ·have hf:=run_findKey (w:=w) K.hd f1
   refine fin (arr.push ⟨K.kv k,a.eval y,cl⟩) (cl+1) ?_ ?_ ?_ ?_ ?_
   ·simp [Instr.mapUpdate,run_underlying hm,MapKept.run_getObj_map g1,run_checkKey K.hd (K.ik k),hf,MapKept.run_setObj_map _ g1]
   ·rw [updE_new f2];simp [g2]
   ·rw [updE_new f2]
    simp only [Array.toList_push,List.map_append,List.map_cons,List.map_nil]
    exact RepIT.app g3 (by simp only [RepIT];exact ⟨_,[],rfl,Rep.toI av himm h3,rfl⟩)
   ·simp only [Array.toList_push,List.map_append,List.map_cons,List.map_nil]
    refine List.nodup_append.2 ⟨g4,by simp,?_⟩
    intro u hu v hv
    simp only [List.mem_singleton] at hv
    subst hv
    obtain ⟨xx,hxx,rfl⟩:=List.mem_map.1 hu
    exact Nat.ne_of_lt (g5 xx hxx)
   ·intro xx hxx
    simp only [Array.toList_push,List.mem_append,List.mem_singleton] at hxx
    rcases hxx with hxx|rfl
    ·exact Nat.lt_succ_of_lt (g5 xx hxx)
    ·exact Nat.lt_succ_self _
  ·rw [Nat.zero_add] at f1
   have hf:=run_findKey (w:=w) K.hd f1
   have f2':arr[jj]?=some en:=by simpa using f2
   obtain ⟨u1,u2⟩:=f6 av
   refine fin (arr.modify jj fun e=>{ e with key:=K.kv k,val:=a.eval y }) cl ?_ ?_ ?_ ?_ ?_
   ·have hks:(Instr.keyThatStays (K.kv k) (K.kv k)).run P w=.ok (K.kv k) w:=by simp [Instr.keyThatStays,hsb k]
    simp [Instr.mapUpdate,run_underlying hm,MapKept.run_getObj_map g1,run_checkKey K.hd (K.ik k),hf,f2',f3,hks,MapKept.run_setObj_map _ g1]
   ·rw [u1,← g2];exact map_modify_key f2' f3.symm
   ·rw [u2,map_modify_val f2']
    exact repIT_set jj g3 (Rep.toI av himm h3)
   ·rw [map_modify_born (f:=fun e=>{ e with key:=K.kv k,val:=a.eval y }) (fun e=>rfl)];exact g4
   ·intro xx hxx
    have:xx.born∈(arr.modify jj fun e=>{ e with key:=K.kv k,val:=a.eval y }).toList.map (·.born):=List.mem_map.2 ⟨xx,hxx,rfl⟩
    rw [map_modify_born (f:=fun e=>{ e with key:=K.kv k,val:=a.eval y }) (fun e=>rfl)] at this
    obtain ⟨y',hy',e'⟩:=List.mem_map.1 this
    rw [← e'];exact g5 y' hy')

theorem X_lookIS {α:Type} [DecidableEq α] {kt et mt:TypeId} (K:Key P kt α) {p:Pl} {es:List (α×AV)} {m x:Operand} {d:Option Nat} {k:α} {zv:Value} {z:AV} {commaOk:Bool} {pi:TypeInfo} {ty:TypeId} {pos:String} {aft:Array Edge} {gd:Option (Nat×Bool)} {j:Nat} {Si:List (Nat×AV)} {c:List Ch}
  (hm:P.underlying mt=some (.map kt et)) (hpi:P.info? et=some pi) (hz:pi.zero=some zv) (hzr:∀ e:Env,Rep e z zv) (hzi:z.imm=true)
  {kx:AV} (hkx:∀ (e:Env) (v:Value),Rep e kx v→v=K.kv k)
  (hg:guardA ops ⟨Si,c⟩ ⟨d,.lookup mt m x commaOk,ty,pos,aft,gd⟩=some true) (hmo:opd Si m=some (mapE K.kv es)) (hx:opd Si x=some kx) (hd:dstOK n d=true) :
  StepX X n ops p Si c c j ⟨d,.lookup mt m x commaOk,ty,pos,aft,gd⟩ (lookAV commaOk (lookE k es) z) :=
 StepX.val hg hd (fun e a w S r r'=>by
  have h1:=opd_sound r' hmo
  have h2:=hkx _ _ (opd_sound r' hx)
  simp only [Rep,RepI] at h1
  obtain ⟨b,vs,e1,e2,e3,e4⟩:=h1
  obtain ⟨arr,cl,g1,g0⟩:=r.mz _ _ e2
  have g2:arr.toList.map (·.key)=es.map (fun q=>K.kv q.1):=by
   have:=congrArg (List.map Prod.fst) g0
   rw [List.map_map,List.map_fst_zip (by rw [e3];exact Nat.le_refl _)] at this
   simpa [Function.comp_def] using this
  have g3:RepIT e.G (es.map (·.2)) (arr.toList.map (·.val)):=by
   have:=congrArg (List.map Prod.snd) g0
   rw [List.map_map,List.map_snd_zip (by rw [e3];exact Nat.le_refl _)] at this
   rw [show arr.toList.map (·.val)=vs by simpa [Function.comp_def] using this]
   exact e4
  have hzero:(zeroValue et).run P w=.ok zv w:=by simp [zeroValue,typeInfo,hpi,hz]
  have key:∃ v,Rep e ((lookE k es).getD z) v∧(Instr.lookup mt (.map (some b)) (K.kv k) commaOk).run P w=.ok (if commaOk then .tuple #[v,.bool (lookE k es).isSome] else v) w:=by
   rcases find_map K e.G k arr.toList es 0 g2 g3 with ⟨f1,f2⟩|⟨jj,en,xx,f1,f2,f3,f4,f5,_⟩
   ·have hf:=run_findKey (w:=w) K.hd f1
    refine ⟨zv,by rw [f2];exact hzr e,?_⟩
    simp [Instr.lookup,run_underlying hm,MapKept.run_getObj_map g1,run_checkKey K.hd (K.ik k),hf,hzero,f2]
   ·have hf:=run_findKey (w:=w) K.hd f1
    refine ⟨en.val,by rw [f4];exact RepI.toRep xx f5,?_⟩
    simp [Instr.lookup,run_underlying hm,MapKept.run_getObj_map g1,run_checkKey K.hd (K.ik k),hf,f4]
  obtain ⟨v,k1,k2⟩:=key
  refine ⟨if commaOk then .tuple #[v,.bool (lookE k es).isSome] else v,w,e,by simp only [execOp,e1,h2,Sem.run_bind,k2,Result.andThen_ok,Sem.run_pure],r,?_⟩
  cases commaOk with
  | false=>simpa [lookAV] using k1
  | true=>simp only [lookAV,cond_true,if_true,Rep,RepT];exact ⟨_,rfl,_,_,rfl,k1,_,_,rfl,rfl,rfl⟩)

theorem kS {l:List UInt8} {v:Value}:∀ (e:Env),Rep e (.s l) v→v=S l:=fun e h=>by simpa only [Rep] using h
theorem X_cpnil {p:Pl} {t el:TypeId} {x:Operand} {cells:List AV} {d:Option Nat} {uy ty:TypeId} {pos:String} {aft:Array Edge} {gd:Option (Nat×Bool)} {j:Nat} {Si:List (Nat×AV)} {c:List Ch} (hm:P.underlying t=some (.pointer el))
  (hg:guardA ops ⟨Si,c⟩ ⟨d,.binOp .eql t x (.const (.pointer none)) uy,ty,pos,aft,gd⟩=some true) (hx:opd Si x=some (.cp cells)) (hd:dstOK n d=true) :
  StepX X n ops p Si c c j ⟨d,.binOp .eql t x (.const (.pointer none)) uy,ty,pos,aft,gd⟩ (B false) :=
 StepX.val hg hd (fun e a w S r r'=>by
  have h1:=opd_sound r' hx
  simp only [Rep,RepI] at h1
  obtain ⟨b,o,e1,_⟩:=h1
  refine ⟨.bool false,w,e,?_,r,by simp [Rep]⟩
  have hgd:(eqGuard .eql t x (.const (.pointer none)) (.pointer (some ⟨b,o,none⟩)) (.pointer none)).run P w=.ok () w:=rfl
  have h2:a.eval (.const (.pointer none))=.pointer none:=rfl
  simp only [execOp,e1,h2,Sem.run_bind,hgd,Result.andThen_ok,binOp_eq_ptr,run_equal_ptr0 hm,Sem.run_pure,eqB,Option.isNone_some])
end
end Go.Sy

namespace Go.Sy
open Go.RowKit

section
variable {P:Program} {T:Tab} {X:Ctx P T} {n:Nat} {e:Env} {st:St} {a:Act} {w:World} {ops:Array Oper} {K:St→Prop}

theorem O_makeN {t el:TypeId} {by_ sz0 b0:Nat} {ag0 ag1:Bool} {z0:List Value} {zc:Value} {d1:TD} {lo co:Operand} {d m:Nat} {ty:TypeId} {pos:String} {aft:Array Edge} {rest:List Oper} {s:List (Nat×AV)} {c:List Ch}
  (hTs:T t=some ⟨sz0,b0,ag0,z0,.slice el⟩) (hTe:T el=some ⟨1,by_,ag1,[zc],d1⟩) (hlo:opd s lo=some (I64 (m:Nat))) (hco:opd s co=some (I64 (m:Nat))) (hd:Nat.blt d n=true)
  (hb:by_*m≤281474976710656) (hm:m≤maxLen)
  (k:∀ b,SymO X n ops rest ⟨(d,.v (HO b 0 m m))::s,.abs (slO (HO b 0 m m) el 1 (List.replicate m (.v zc)))::c⟩ K):SymO X n ops (⟨some d,.makeSlice t lo co,ty,pos,aft,none⟩::rest) ⟨s,c⟩ K:=by
 intro e a w Q r hq
 unfold wpList
 rw [if_pos (guardA_sound r (o:=⟨some d,.makeSlice t lo co,ty,pos,aft,none⟩) (b:=true) rfl)]
 refine .inl ?_
 have h1:=opd_sound r hlo
 have h2:=opd_sound r hco
 simp only [Rep] at h1 h2
 obtain ⟨pi,z,i1,i2,i3,i4,i5,i6,i7⟩:=(X.ok _ _ hTe).info
 obtain ⟨dd,e1,_,e3⟩:=(X.ok _ _ hTs).desc
 simp only [TDOK] at e3
 subst e3
 have hm63:(m:Int)≤9223372036854775807:=by simp [maxLen] at hm;omega
 have hbb:(pi.bytes:Int)*(m:Int)≤281474976710656:=by
  have h:((by_*m:Nat):Int)≤281474976710656:=by omega
  rw [i3];rwa [Int.natCast_mul] at h
 have hrun:=run_make (P:=P) w t el pi z e1 i1 i4 .i64 .i64 m m (by omega) (Int.le_refl _) hbb hm63
 simp only [Int.toNat_natCast] at hrun
 unfold Oper.wp
 have hrun2:(execOp a.eval ⟨some d,.makeSlice t lo co,ty,pos,aft,none⟩).run P w=.ok (.value (HO w.heap.size 0 m m)) (w.alloc (.cells (madeCells z.cells (m*pi.size)) el)):=by
  simp only [execOp,h1,h2,Sem.run_bind,hrun,Result.andThen_ok,Sem.run_pure]
 rw [hrun2]
 have hz:z.cells=#[zc]:=by apply Array.ext';simpa using i5
 have hzc:zc.oneCell'=true:=by simpa using i6
 have hmc:madeCells z.cells (m*pi.size)=Array.replicate m zc:=by
  rw [hz,i2,Nat.mul_one]
  apply Array.ext
  ·simp [madeCells]
  ·intro i hi1 hi2
   simp [madeCells,Nat.mod_one]
 rw [hmc]
 have r2:=r.allocAbs (A:=slO (HO w.heap.size 0 m m) el 1 (List.replicate m (.v zc))) (o:=.cells (Array.replicate m zc) el) rfl (by
  refine ⟨m,by simp,.inr ⟨w.heap.size,0,m,Array.replicate m zc,rfl,Nat.le_refl _,hm,Go.heap_alloc_new w _,by simp,?_⟩⟩
  refine RepIL.mk (by simp) (fun j cc hcc=>?_)
  rw [List.getElem?_replicate] at hcc
  split at hcc
  ·rename_i hj
   simp only [Option.some.injEq] at hcc
   subst hcc
   exact ⟨zc,by simp [List.getElem?_replicate,hj],by simp only [RepI],hzc⟩
  ·cases hcc)
 exact k w.heap.size _ _ _ Q (r2.put (x:=.v (HO w.heap.size 0 m m)) hd (by simp only [Rep])) hq

theorem D_callAV (is:List Nat) {base:List (Nat×AV)} {c:List Ch} {done:Done} {f:FuncId} {xo:Operand} {fv:AV} {caps:List AV} {dst:Nat} {args:Array Operand} {tys:Array TypeId} {ty:TypeId} {pos:String} {aft:Array Edge} {gd:Option (Nat×Bool)} {rest:List Oper} {avs:List AV} {x:AV} {cs:List Abs} {cr:List Ch}
  (hclo:IsClo fv f caps) (hfi:fv.imm=true) (hf:FnA P f (avs++caps) cs (fun r cs'=>r=x∧cs'=cs)) (hxo:opd (availL done aft.toList base) xo=some fv)
  (hg:guardA ops ⟨availL done aft.toList base,c⟩ ⟨some dst,.call ⟨.value xo,args,tys⟩,ty,pos,aft,gd⟩=some true) (ha:opds (availL done aft.toList base) args.toList=some avs) (himm:AV.imm.immL avs=true) (hp:pickA is c=some (cs,cr)) (hd:Nat.blt dst n=true)
  (k:SymD X n ops base c K rest (done++[(some dst,x)])) :
  SymD X n ops base c K (⟨some dst,.call ⟨.value xo,args,tys⟩,ty,pos,aft,gd⟩::rest) done:=by
 refine ⟨x,fun e a w S K' Q r hS hk=>?_,k⟩
 have r':Rel X n e ⟨availL done aft.toList base,c⟩ a w:=r.less hS (fun h=>h)
 rw [if_pos (guardA_sound r' hg)]
 refine .inl ?_
 unfold Oper.wp
 obtain ⟨vs,hfv,hvs⟩:=hclo e.G _ (Rep.toI fv hfi (opd_sound r' hxo))
 rw [run_callV hf.1 a.eval hfv w,Oper.upon_enter]
 have h1:=RepIT.app (RepT.toI avs himm (opds_sound r' ha)) hvs
 have harr:args.map a.eval++vs=(args.toList.map a.eval++vs.toList).toArray:=by
  apply Array.ext';simp
 rw [harr]
 have hpp:=pickA_perm hp
 have hd2:=(r.heap.perm hpp).absOK
 refine (hf.2 e.G w _ ⟨r.im,r.mz⟩ h1 hd2.1).mono ?_
 rintro en w' ⟨rv,cv,cs',G',⟨rfl,rfl⟩,rfl,g1,g2,g3,g4,g5,g6,o1,o2,o3,o4,o5⟩
 have r2:=r.swapAbs (st:=⟨S,c⟩) hpp g2 g4 g3 g5 g6 ⟨o1,o2,o3⟩ o4 o5
 have r3:Rel X n ⟨G',e.μ,e.hd⟩ ⟨S,c⟩ a w':={ r2 with heap:=r2.heap.perm hpp.symm }
 exact hk _ _ _ (r3.put hd (RepI.toRep (e:=⟨G',e.μ,e.hd⟩) rv g1))
end
end Go.Sy

namespace Go.Sy
open Go.RowKit

section
variable {P:Program} {T:Tab} {X:Ctx P T} {n:Nat} {e:Env} {st:St} {a:Act} {w:World} {ops:Array Oper} {K:St→Prop}

theorem O_appendV (q:Nat) {dst:Nat} {so_ xo:Operand} {t ty:TypeId} {pos:String} {aft:Array Edge} {rest:List Oper} {s:List (Nat×AV)} {c cr:List Ch} {h:Value} {el esz m m2 m3:Nat} {row row2 row3:Nat→List AV} {by_:Nat} {sz0 b0:Nat} {ag0 ag1:Bool} {z0 z1:List Value} {d1:TD}
  (hTs:T t=some ⟨sz0,b0,ag0,z0,.slice el⟩) (hTe:T el=some ⟨esz,by_,ag1,z1,d1⟩) (hpos:Nat.blt 0 esz=true)
  (hso:opd s so_=some (.v h)) (hp:nthA q c=some (vecA h el esz m row,cr)) (hxo:opd s xo=some (.sl m2 esz row2)) (hr2:∀ i,i<m2→(row2 i).length=esz)
  (hd:Nat.blt dst n=true) (hlen:(m+m2)*by_≤140737488355328) (hlen2:m+m2≤maxLen)
  (hm3:m3=m+m2) (hrow3:∀ i,i<m3→appRow m row row2 i=row3 i)
  (k:∀ v',(m3=0∧v'=.slice none 0 0)∨(∃ g cc,v'=HD g m3 cc)→SymO X n ops rest ⟨(dst,.v v')::s,.abs (vecA v' el esz m3 row3)::cr⟩ K) :
  SymO X n ops (⟨some dst,.call ⟨.builtin .append,#[so_,xo],#[t,t]⟩,ty,pos,aft,none⟩::rest) ⟨s,c⟩ K:=by
 subst hm3
 intro e a w Q r hq
 obtain ⟨pi,z,i1,i2,i3,i4,i5,i6,i7⟩:=(X.ok _ _ hTe).info
 obtain ⟨dd,e1,_,e3⟩:=(X.ok _ _ hTs).desc
 simp only [TDOK] at e3
 subst e3
 have hso':=opd_sound r hso
 simp only [Rep] at hso'
 have hzs:z.cells.size=esz:=by
  have:z.cells.toList.length=esz:=by rw [i5];exact i7
  simpa using this
 have hpos':0<esz:=by have:=hpos;simp [Nat.blt] at this;omega
 obtain ⟨⟨xs,g1,g2⟩,hgood,hnd⟩:=r.heap.nth hp
 have hperm:c.Perm ([vecA h el esz m row].map Ch.abs++cr):=by simpa using nthA_perm hp
 have hbl:∀ B:Abs,blocks [B]=B.bs:=fun B=>by simp [blocks]
 have fin:∀ (v':Value) (w':World) (xs':List Value),(execOp a.eval ⟨some dst,.call ⟨.builtin .append,#[so_,xo],#[t,t]⟩,ty,pos,aft,none⟩).run P w=.ok (.value v') w' →
   w'.ownsRow 0 el esz v' (m+m2) xs'→RowsL e.G esz (m+m2) row3 xs' →
   (∀ b,b<w.heap.size→b∉(vecA h el esz m row).bs→w'.heap[b]?=w.heap[b]?)→(∀ b,v'.ownBlock=some b→b<w'.heap.size∧(some b=h.ownBlock∨w.heap.size≤b)) →
   w'.os=w.os∧w'.tape=w.tape∧w'.output=w.output→w.heap.size≤w'.heap.size→wpList P ops Q (⟨some dst,.call ⟨.builtin .append,#[so_,xo],#[t,t]⟩,ty,pos,aft,none⟩::rest) a w:=by
  intro v' w' xs' hrun hown hrows hoth hbs' ho hsz
  unfold wpList
  rw [if_pos (by simp [Region.wanted])]
  refine .inl ?_
  unfold Oper.wp
  rw [hrun]
  have hmem:∀ b∈(vecA v' el esz (m+m2) row3).bs,v'.ownBlock=some b:=fun b hb=>by simpa [vecA] using hb
  have hin:∀ b,some b=h.ownBlock→b∈(vecA h el esz m row).bs:=fun b hb=>by simp [vecA,← hb]
  have r2:=r.swapAbs (st:=⟨s,c⟩) (As:=[vecA h el esz m row]) (As':=[vecA v' el esz (m+m2) row3]) (G':=e.G) (w':=w') hperm (IM.le_refl _) ⟨?_,?_⟩ ⟨fun b o v h=>.inl h,fun b x h=>.inl h⟩ ⟨?_,?_,?_⟩ ?_ ho hsz ?_
  ·have hsh:(m+m2=0∧v'=.slice none 0 0)∨(∃ g cc,v'=HD g (m+m2) cc):=by
    rcases hown.2 with ⟨h1,h2⟩|⟨g,cap,cur,h1,_⟩
    ·exact .inl ⟨h2,h1⟩
    ·exact .inr ⟨g,cap,h1⟩
   exact k v' hsh _ _ _ Q (r2.put (x:=.v v') (v:=v') hd (by simp only [Rep])) hq
  ·intro b o v hv
   have h1:=r.im b o v hv
   simp only [World.cell?] at h1 ⊢
   rw [hoth b (r.glt0 _ _ _ hv) (fun hin=>by rw [(hgood b hin).2.2.1 o] at hv;cases hv)]
   exact h1
  ·exact r.mzKeep (fun b hb hf=>hoth b hb (fun hin=>hf (hgood b hin).2.2))
  ·intro B hB
   simp only [List.mem_singleton] at hB
   subst hB;exact ⟨xs',hown,hrows⟩
  ·rw [hbl]
   show (v'.ownBlock.toList).Nodup
   cases v'.ownBlock<;>simp
  ·intro b hb
   rw [hbl] at hb
   obtain ⟨h1,h2⟩:=hbs' b (hmem b hb)
   refine ⟨h1,?_⟩
   rcases h2 with h2|h2
   ·exact (hgood b (hin b h2)).2.2
   ·exact r.free h2
  ·intro b hb
   rw [hbl] at hb ⊢
   rcases (hbs' b (hmem b hb)).2 with h2|h2
   ·exact .inr (hin b h2)
   ·exact .inl h2
  ·intro b hb hnin _
   rw [hbl] at hnin
   exact hoth b hb hnin
 have hrowsOut:∀ {news:List Value},RowsL e.G esz m2 row2 news→RowsL e.G esz (m+m2) row3 (xs++news):=fun hn i hi=>by
  rw [← hrow3 i hi];exact rows_app g1.1 g2 hn i hi
 have hno:∀ b,b∉(vecA h el esz m row).bs→some b≠h.ownBlock:=fun b hb he=>hb (by simp [vecA,← he])
 rcases src_sl hxo hr2 e a w r with ⟨ad,cc,news,hx,hl,hnews,h1,hrn⟩|⟨hm2,cc,hx⟩
 ·obtain ⟨v',w',hr,q2,q3,q4⟩:=run_append_own (P:=P) w 0 t ty el pi z esz by_ e1 i1 i4 i2 i3 hzs hpos' h m xs g1 ad m2 cc news hl hnews h1 hlen2 hlen (Nat.zero_le _)
  have hrun:(execOp a.eval ⟨some dst,.call ⟨.builtin .append,#[so_,xo],#[t,t]⟩,ty,pos,aft,none⟩).run P w=.ok (.value v') w':=by
   simp only [execOp,resolve,invoke,builtin,Sem.run_bind,Sem.run_pure,Result.andThen_ok,List.map_toArray,List.map_cons,List.map_nil,hso',hx,hr]
  refine fin v' w' (xs++news) hrun q2 (hrowsOut hrn) (fun b hb hn=>q3.block b hb (fun he=>hno b hn he)) (fun b hb=>?_) ⟨q3.os,q3.tape,q3.output⟩ q3.size
  refine ⟨(q2.lt b hb).2,?_⟩
  simp only at i2 i3
  subst i2 i3
  exact append_block t ty el pi z e1 i1 i4 h m xs g1 ad m2 cc news hl hnews h1 hlen2 hlen hr b hb
 ·subst hm2
  have hrun0:=append_none t ty el pi e1 i1 h m xs g1 cc
  have hrun:(execOp a.eval ⟨some dst,.call ⟨.builtin .append,#[so_,xo],#[t,t]⟩,ty,pos,aft,none⟩).run P w=.ok (.value h) w:=by
   simp only [execOp,resolve,invoke,builtin,Sem.run_bind,Sem.run_pure,Result.andThen_ok,List.map_toArray,List.map_cons,List.map_nil,hso',hx,hrun0]
  have hrn:RowsL e.G esz 0 row2 ([]:List Value):=fun i hi=>by omega
  refine fin h w (xs++[]) hrun (by simpa using g1) (hrowsOut hrn) (fun _ _ _=>rfl) (fun b hb=>⟨(hgood b (by simp [vecA,hb])).1,.inl hb.symm⟩) ⟨rfl,rfl,rfl⟩ (Nat.le_refl _)

theorem Le.frVec (q:Nat) {h:Value} {t:TypeId} {esz m:Nat} {row:Nat→List AV} {s:List (Nat×AV)} {c cr:List Ch} (row':Nat→List AV) (hp:nthA q c=some (vecA h t esz m row,cr)) (hrow:∀ i,i<m→row' i=row i) :
  Le X n ⟨s,c⟩ ⟨s,.abs (repA (.sl m esz row') h)::cr⟩:=by
 refine Le.fr q hp rfl ?_
 rintro G w ⟨xs,g1,g2⟩ hb
 rcases g1.2 with ⟨rfl,rfl⟩|⟨g,cap,cur,rfl,_,hg,hcap,hmax,hcs,htake⟩
 ·refine ⟨G,IM.le_refl _,fun _ _ _ h=>.inl h,fun _ _ h=>.inl h,?_⟩
  simp only [repA,RepI]
  exact ⟨none,0,rfl,Nat.le_refl _,.inl trivial⟩
 ·have hf:=hb g (by simp [vecA,Value.ownBlock])
  let G':IM:=⟨fun b' o'=>if b'=g then cur[o']? else G b' o',G.m⟩
  have hle:IM.le G G':=by
   refine ⟨?_,fun _ _ h=>h⟩
   intro b' o' v hv
   show (if b'=g then cur[o']? else G b' o')=some v
   rw [if_neg]
   ·exact hv
   ·rintro rfl;rw [hf.2.1 o'] at hv;cases hv
  refine ⟨G',hle,?_,fun _ _ h=>.inl h,?_⟩
  ·intro b' o' v hv
   have hv':(if b'=g then cur[o']? else G b' o')=some v:=hv
   split at hv'
   ·rename_i hbb;subst hbb
    refine .inr ⟨by simp [vecA,Value.ownBlock],?_⟩
    rw [cell_of_row w b' o' cur t (0,0) hg];exact hv'
   ·exact .inl hv'
  ·simp only [repA,RepI]
   refine ⟨some ⟨g,0,none⟩,cap,rfl,hcap,.inr ⟨g,0,rfl,fun i hi=>CellsAt.mk (fun j c hc=>?_)⟩⟩
   rw [hrow i hi] at hc
   obtain ⟨z,z1,z2,z3⟩:=(g2 i hi).get j c hc
   have hj:j<esz:=by
    rcases Nat.lt_or_ge j esz with h|h
    ·exact h
    ·rw [List.getElem?_eq_none (by simp;omega)] at z1;cases z1
   have hlt:i*esz+j<m*esz:=by
    have:(i+1)*esz≤m*esz:=Nat.mul_le_mul_right _ hi
    rw [Nat.add_mul] at this;omega
   rw [List.getElem?_take,if_pos hj,List.getElem?_drop,← htake,List.getElem?_take,if_pos hlt] at z1
   refine ⟨z,?_,RepI.mono hle _ z2,z3⟩
   show (if g=g then cur[0+i*esz+j]? else G g (0+i*esz+j))=some z
   rw [if_pos rfl,Nat.zero_add];simpa using z1
theorem Le.addVec (t:TypeId) (esz:Nat) (row:Nat→List AV) {s:List (Nat×AV)} {c:List Ch}:Le X n ⟨s,c⟩ ⟨s,.abs (vecA (.slice none 0 0) t esz 0 row)::c⟩ :=
 Le.addAbs _ rfl (fun _ _=>⟨[],⟨by simp,.inl ⟨rfl,rfl⟩⟩,fun i hi=>absurd hi (Nat.not_lt_zero _)⟩)
end
end Go.Sy

namespace Go.Sy
open Go.RowKit

section
variable {P:Program} {T:Tab} {X:Ctx P T} {n:Nat} {e:Env} {st:St} {a:Act} {w:World} {ops:Array Oper} {K:St→Prop}

theorem X_storeV (q i:Nat) {p:Pl} {g o m cc:Nat} {t tt:TypeId} {esz by_:Nat} {z:List Value} {dd:TD} {row row':Nat→List AV} {ad xo:Operand} {cells:List AV} {ty:TypeId} {pos:String} {aft:Array Edge} {gd:Option (Nat×Bool)} {jj:Nat} {Si:List (Nat×AV)} {c cr:List Ch}
  (hT:T t=some ⟨esz,by_,true,z,dd⟩) (hg:guardA ops ⟨Si,c⟩ ⟨none,.store t ad xo,ty,pos,aft,gd⟩=some true) (had:opd Si ad=some (PT g o)) (ho:o=i*esz) (hx:opd Si xo=some (.agg cells)) (hlen:cells.length=esz) (himm:AV.imm.immL cells=true)
  (hi:i<m) (hp:nthA q c=some (vecA (HD g m cc) tt esz m row,cr)) (hrow:∀ j,j<m→row' j=if j=i then cells else row j) :
  StepX X n ops p Si c (.abs (vecA (HD g m cc) tt esz m row')::cr) jj ⟨none,.store t ad xo,ty,pos,aft,gd⟩ .bad :=
 StepX.skip hg rfl (fun e a w S r r'=>by
  have h1:=opd_sound r' had
  have h2:=opd_sound r' hx
  simp only [Rep] at h1 h2
  obtain ⟨ys,h2,h3⟩:=h2
  obtain ⟨⟨xs,g1,g2⟩,hgood,_⟩:=r.heap.nth hp
  rcases g1.2 with ⟨hnil,_⟩|⟨g',cap,cur,hsl,_,hgc,hcap,hmax,hcs,htake⟩
  ·cases hnil
  simp only [HD,Value.slice.injEq,Option.some.injEq,Addr.mk.injEq,and_true,true_and] at hsl
  obtain ⟨rfl,rfl⟩:=hsl
  have hyl:ys.toList.length=esz:=by rw [← hlen];exact RepIL.len (RepL.toI cells himm h3)
  have hle:(i+1)*esz≤m*esz:=Nat.mul_le_mul_right _ hi
  have hle2:m*esz≤cc*esz:=Nat.mul_le_mul_right _ hcap
  rw [Nat.add_mul] at hle
  have hfit:o+ys.toList.length≤cur.size:=by rw [hyl,hcs,ho];omega
  have hone:∀ v∈ys.toList,v.oneCell'=true:=RepL.one h3
  have hrun0:=run_storeCells_cells (P:=P) g o ys.toList 0 w (fun j hj=>by
    rw [Nat.add_zero,cell_of_row w g _ cur tt (0,0) hgc]
    rw [Array.getElem?_eq_getElem (by omega)];rfl) (fun j hj=>by simp [World.frozen?,hgc]) hone
  rw [Nat.add_zero] at hrun0
  have hsz:ys.size=esz:=by simpa using hyl
  have hrun:(execOp a.eval ⟨none,.store t ad xo,ty,pos,aft,gd⟩).run P w=.ok .skip (w.setCells g o ys.toList):=by
   simp only [execOp,Instr.storeAt,h1,h2,Instr.sureAddr,Sem.run_bind,Sem.run_pure,Result.andThen_ok,storeVar,X.ok.size hT]
   have hc:(Value.agg ys).cells=ys:=rfl
   simp [hc,hsz,hrun0]
  refine ⟨_,e,hrun,r.absTurn (st:=⟨S,c⟩) hp rfl ?_ (fun b hb=>?_) ?_ ?_⟩
  ·have hh:=setCells_heap ys.toList g o w cur tt (0,0) hgc
   refine ⟨(writeAt cur o ys.toList).toList.take (m*esz),⟨?_,.inr ⟨g,cc,_,rfl,Nat.zero_le _,hh,hcap,hmax,by rw [writeAt_size];exact hcs,rfl⟩⟩,?_⟩
   ·simp only [List.length_take,Array.length_toList,writeAt_size];omega
   ·intro j hj
    rw [hrow j hj]
    have hjle:(j+1)*esz≤m*esz:=Nat.mul_le_mul_right _ hj
    rw [Nat.add_mul] at hjle
    refine RepIL.mk ?_ (fun k y hy=>?_)
    ·simp only [List.length_take,List.length_drop,Array.length_toList,writeAt_size]
     have hrl:=(g2 j hj).len
     simp only [List.length_take,List.length_drop] at hrl
     have hxl:=g1.1
     split
     ·rw [hlen];omega
     ·rw [← hrl,hxl];omega
    ·have hk:k<esz:=by
      have hrl:=(g2 j hj).len
      simp only [List.length_take,List.length_drop] at hrl
      rcases Nat.lt_or_ge k esz with h|h
      ·exact h
      ·rw [List.getElem?_eq_none] at hy
       ·cases hy
       ·split
        ·omega
        ·rw [← hrl];omega
     rw [List.getElem?_take,if_pos hk,List.getElem?_drop,List.getElem?_take,if_pos (by omega),Array.getElem?_toList,writeAt_get _ _ _ _ hfit]
     by_cases hji:j=i
     ·subst hji
      rw [if_pos rfl] at hy
      rw [if_pos (by rw [hyl];omega)]
      obtain ⟨zz,z1,z2,z3⟩:=(RepL.toI cells himm h3).get k y hy
      exact ⟨zz,by rw [show j*esz+k-o=k by omega];exact z1,z2,z3⟩
     ·rw [if_neg hji] at hy
      rw [if_neg (by
       rw [hyl,ho]
       rcases Nat.lt_or_gt_of_ne hji with h|h
       ·have:(j+1)*esz≤i*esz:=Nat.mul_le_mul_right _ h
        rw [Nat.add_mul] at this;omega
       ·have:(i+1)*esz≤j*esz:=Nat.mul_le_mul_right _ h
        rw [Nat.add_mul] at this;omega)]
      obtain ⟨zz,z1,z2,z3⟩:=(g2 j hj).get k y hy
      rw [List.getElem?_take,if_pos hk,List.getElem?_drop,← htake,List.getElem?_take,if_pos (by omega)] at z1
      exact ⟨zz,by simpa using z1,z2,z3⟩
  ·exact setCells_other ys.toList g o b w (fun he=>hb (by subst he;simp [vecA,HD,Value.ownBlock]))
  ·exact (setCells_misc ys.toList g o w).2
  ·exact (setCells_misc ys.toList g o w).1)
end
end Go.Sy

namespace Go.Sy
open Go.RowKit

section
variable {P:Program} {T:Tab} {X:Ctx P T} {n:Nat} {e:Env} {st:St} {a:Act} {w:World} {ops:Array Oper} {K:St→Prop}

theorem run_ext {f:FuncId} {dst:Option Tmp} {args:Array Operand} {tys:Array TypeId} {ty:TypeId} {pos:String} {aft:Array Edge} {gd:Option (Nat×Bool)} (ρ:Operand→Value) (hρ:ρ (.func f)=.func (.func f) #[] #[]) (w w':World) {v:Value}
  (h:(callFunc f (args.map ρ)).run P w=.ok (.value v) w'):(execOp ρ ⟨dst,.call ⟨.value (.func f),args,tys⟩,ty,pos,aft,gd⟩).run P w=.ok (.value v) w':=by
 simp only [execOp,resolve,hρ,Deferred.ofValue,Sem.run_bind,Sem.run_pure,Result.andThen_ok,invoke]
 simp [h]

theorem box_cell {G:IM} {b o:Nat} {t:TypeId} {cells:List AV} {v:Value} (hok:(boxA b t cells).ok G w) (hj:cells[o]?=some (.v v)):w.cell? ⟨b,o,none⟩=some v∧w.frozen? ⟨b,o,none⟩=false:=by
 obtain ⟨arr,h1,h2⟩:=hok
 obtain ⟨z,z1,z2,z3⟩:=h2.get o _ hj
 simp only [RepI] at z2
 subst z2
 exact ⟨by rw [cell_of_row w b o arr t (0,0) h1];simpa using z1,by simp [World.frozen?,h1]⟩

theorem X_mark0 {p : Pl} {f : FuncId} {fn : Func} (hf : P.funcs[f]? = some fn) (hname : (fn.name == "runtime.NumGoroutine") = false) (hb : fn.body.isNone = true) (hn : Extern.findNext fn = none) (m : Mark)
  (he:Extern.find fn=some (fun _=>do mark m;pure Extern.Race.none_)) {d:Option Nat} {tys:Array TypeId} {ty:TypeId} {pos:String} {aft:Array Edge} {gd:Option (Nat×Bool)} {j:Nat} {Si:List (Nat×AV)} {c:List Ch}
  (hg:guardA ops ⟨Si,c⟩ ⟨d,.call ⟨.value (.func f),#[],tys⟩,ty,pos,aft,gd⟩=some true) (hd:dstOK n d=true) :
  StepX X n ops p Si c c j ⟨d,.call ⟨.value (.func f),#[],tys⟩,ty,pos,aft,gd⟩ (.tup []) :=
 StepX.val hg hd (fun e a w S r r'=>⟨.tuple #[],w,e,run_ext a.eval rfl w w (by simpa using run_call_mark0 hf hname hb hn m he w),r,by simp only [Rep,RepT];exact ⟨_,rfl,rfl⟩⟩)
theorem X_marked {p : Pl} {f : FuncId} {fn : Func} (hf : P.funcs[f]? = some fn) (hname : (fn.name == "runtime.NumGoroutine") = false) (hb : fn.body.isNone = true) (hn : Extern.findNext fn = none) (m : Addr → Mark)
  (he:Extern.find fn=some (Extern.Race.marked m)) {x:Operand} {b o:Nat} {d:Option Nat} {tys:Array TypeId} {ty:TypeId} {pos:String} {aft:Array Edge} {gd:Option (Nat×Bool)} {j:Nat} {Si:List (Nat×AV)} {c:List Ch}
  (hg:guardA ops ⟨Si,c⟩ ⟨d,.call ⟨.value (.func f),#[x],tys⟩,ty,pos,aft,gd⟩=some true) (hx:opd Si x=some (PT b o)) (hd:dstOK n d=true) :
  StepX X n ops p Si c c j ⟨d,.call ⟨.value (.func f),#[x],tys⟩,ty,pos,aft,gd⟩ (.tup []) :=
 StepX.val hg hd (fun e a w S r r'=>by
  have h1:=opd_sound r' hx
  simp only [Rep] at h1
  refine ⟨.tuple #[],w,e,run_ext a.eval rfl w w ?_,r,by simp only [Rep,RepT];exact ⟨_,rfl,rfl⟩⟩
  have:=run_call_marked (P:=P) hf hname hb hn m he ⟨b,o,none⟩ w
  simpa [h1] using this)
theorem X_unsafe (q:Nat) {p:Pl} {src dst' t:TypeId} (hs:P.underlying src=some (.pointer t)) (hdd:P.underlying dst'=some .unsafePointer) (hsz:(P.info? t).map (fun i=>decide (i.size=0))=some false)
  {x:Operand} {b o:Nat} {T':TypeId} {cells:List AV} {v:Value} {d:Option Nat} {ty:TypeId} {pos:String} {aft:Array Edge} {gd:Option (Nat×Bool)} {j:Nat} {Si:List (Nat×AV)} {c cr:List Ch}
  (hg:guardA ops ⟨Si,c⟩ ⟨d,.convert src dst' x,ty,pos,aft,gd⟩=some true) (hx:opd Si x=some (PT b o)) (hp:nthA q c=some (boxA b T' cells,cr)) (hj:cells[o]?=some (.v v)) (hd:dstOK n d=true) :
  StepX X n ops p Si c c j ⟨d,.convert src dst' x,ty,pos,aft,gd⟩ (PT b o) :=
 StepX.val hg hd (fun e a w S r r'=>by
  have h1:=opd_sound r' hx
  simp only [Rep] at h1
  have hc:=box_cell (r.heap.nth hp).1 hj
  refine ⟨.pointer (some ⟨b,o,none⟩),w,e,?_,r,by simp only [Rep]⟩
  have:=run_convert_to_unsafe (P:=P) hs hdd hsz hc.1
  simp only [execOp,h1,Sem.run_bind,this,Result.andThen_ok,Sem.run_pure])
theorem X_aload (q : Nat) {p : Pl} {f : FuncId} {fn : Func} (hf : P.funcs[f]? = some fn) (hname : (fn.name == "runtime.NumGoroutine") = false) (hb : fn.body.isNone = true) (hn : Extern.findNext fn = none) (k : IntKind)
  (he:Extern.find fn=some (Extern.Atomic.loadT (.int k))) {x:Operand} {b o:Nat} {T':TypeId} {cells:List AV} {y:Int} {d:Option Nat} {tys:Array TypeId} {ty:TypeId} {pos:String} {aft:Array Edge} {gd:Option (Nat×Bool)} {j:Nat} {Si:List (Nat×AV)} {c cr:List Ch}
  (hg:guardA ops ⟨Si,c⟩ ⟨d,.call ⟨.value (.func f),#[x],tys⟩,ty,pos,aft,gd⟩=some true) (hx:opd Si x=some (PT b o)) (hp:nthA q c=some (boxA b T' cells,cr)) (hj:cells[o]?=some (.v (.int k y))) (hd:dstOK n d=true) :
  StepX X n ops p Si c c j ⟨d,.call ⟨.value (.func f),#[x],tys⟩,ty,pos,aft,gd⟩ (.v (.int k y)) :=
 StepX.val hg hd (fun e a w S r r'=>by
  have h1:=opd_sound r' hx
  simp only [Rep] at h1
  have hc:=box_cell (r.heap.nth hp).1 hj
  refine ⟨.int k y,w,e,run_ext a.eval rfl w w ?_,r,by simp only [Rep]⟩
  have:=run_call_load (P:=P) hf hname hb hn k he hc.1
  simpa [h1] using this)
theorem box_write (r:Rel X n e ⟨st.s,st.c⟩ a w) {q b o:Nat} {T':TypeId} {cells:List AV} {u v:Value} {cr:List Ch} (hp:nthA q st.c=some (boxA b T' cells,cr)) (hj:cells[o]?=some (.v u)) (hv:v.oneCell'=true) :
  Rel X n e ⟨st.s,.abs (boxA b T' (cells.set o (.v v)))::cr⟩ a (w.setCell ⟨b,o,none⟩ v):=by
 have hlt:o<cells.length:=by
  rcases Nat.lt_or_ge o cells.length with h|h
  ·exact h
  ·rw [List.getElem?_eq_none h] at hj;cases hj
 have hW:=writes_box (b:=b) (t:=T') (cells:=cells) (o:=o) (x:=.v v) hlt
 exact r.absWrite (st:=st) hp hW.1 hW.2.1 (hW.2.2 _ _ _ (r.heap.nth hp).1 (by simp only [RepI]) hv).2.2
theorem X_acas (q : Nat) {p : Pl} {f : FuncId} {fn : Func} (hf : P.funcs[f]? = some fn) (hname : (fn.name == "runtime.NumGoroutine") = false) (hb : fn.body.isNone = true) (hn : Extern.findNext fn = none) (k : IntKind)
  (he:Extern.find fn=some (Extern.Atomic.casT (.int k))) {x xo xn:Operand} {b o:Nat} {T':TypeId} {cells:List AV} {y z:Int} {d:Option Nat} {tys:Array TypeId} {ty:TypeId} {pos:String} {aft:Array Edge} {gd:Option (Nat×Bool)} {j:Nat} {Si:List (Nat×AV)} {c cr:List Ch}
  (hg:guardA ops ⟨Si,c⟩ ⟨d,.call ⟨.value (.func f),#[x,xo,xn],tys⟩,ty,pos,aft,gd⟩=some true) (hx:opd Si x=some (PT b o)) (hxo:opd Si xo=some (.v (.int k y))) (hxn:opd Si xn=some (.v (.int k z))) (hp:nthA q c=some (boxA b T' cells,cr)) (hj:cells[o]?=some (.v (.int k y))) (hd:dstOK n d=true) :
  StepX X n ops p Si c (.abs (boxA b T' (cells.set o (.v (.int k z))))::cr) j ⟨d,.call ⟨.value (.func f),#[x,xo,xn],tys⟩,ty,pos,aft,gd⟩ (B true) :=
 StepX.val hg hd (fun e a w S r r'=>by
  have h1:=opd_sound r' hx
  have h2:=opd_sound r' hxo
  have h3:=opd_sound r' hxn
  simp only [Rep] at h1 h2 h3
  have hc:=box_cell (r.heap.nth hp).1 hj
  refine ⟨.bool true,_,e,run_ext a.eval rfl w _ ?_,box_write (st:=⟨S,c⟩) r hp hj rfl,by simp only [Rep]⟩
  have:=run_call_cas_hit (P:=P) hf hname hb hn k he (y:=z) hc.1 hc.2
  simpa [h1,h2,h3] using this)
theorem X_astore (q : Nat) {p : Pl} {f : FuncId} {fn : Func} (hf : P.funcs[f]? = some fn) (hname : (fn.name == "runtime.NumGoroutine") = false) (hb : fn.body.isNone = true) (hn : Extern.findNext fn = none)
  (he:Extern.find fn=some Extern.Atomic.storeT) {x xn:Operand} {b o:Nat} {T':TypeId} {cells:List AV} {k:IntKind} {z:Int} {u:Value} {d:Option Nat} {tys:Array TypeId} {ty:TypeId} {pos:String} {aft:Array Edge} {gd:Option (Nat×Bool)} {j:Nat} {Si:List (Nat×AV)} {c cr:List Ch}
  (hg:guardA ops ⟨Si,c⟩ ⟨d,.call ⟨.value (.func f),#[x,xn],tys⟩,ty,pos,aft,gd⟩=some true) (hx:opd Si x=some (PT b o)) (hxn:opd Si xn=some (.v (.int k z))) (hp:nthA q c=some (boxA b T' cells,cr)) (hj:cells[o]?=some (.v u)) (hd:dstOK n d=true) :
  StepX X n ops p Si c (.abs (boxA b T' (cells.set o (.v (.int k z))))::cr) j ⟨d,.call ⟨.value (.func f),#[x,xn],tys⟩,ty,pos,aft,gd⟩ (.tup []) :=
 StepX.val hg hd (fun e a w S r r'=>by
  have h1:=opd_sound r' hx
  have h3:=opd_sound r' hxn
  simp only [Rep] at h1 h3
  have hc:=box_cell (r.heap.nth hp).1 hj
  refine ⟨.tuple #[],_,e,run_ext a.eval rfl w _ ?_,box_write (st:=⟨S,c⟩) r hp hj rfl,by simp only [Rep,RepT];exact ⟨_,rfl,rfl⟩⟩
  have:=run_call_store (P:=P) hf hname hb hn he (k:=k) (y:=z) hc.1 hc.2
  simpa [h1,h3] using this)
theorem X_aadd (q : Nat) {p : Pl} {f : FuncId} {fn : Func} (hf : P.funcs[f]? = some fn) (hname : (fn.name == "runtime.NumGoroutine") = false) (hb : fn.body.isNone = true) (hn : Extern.findNext fn = none) (k : IntKind)
  (he:Extern.find fn=some (Extern.Atomic.update (Op.intArith .add) k true)) {x xn:Operand} {b o:Nat} {T':TypeId} {cells:List AV} {y z s:Int} (hs:∀ w,(Op.intArith .add k y z).run P w=.ok (.int k s) w) {d:Option Nat} {tys:Array TypeId} {ty:TypeId} {pos:String} {aft:Array Edge} {gd:Option (Nat×Bool)} {j:Nat} {Si:List (Nat×AV)} {c cr:List Ch}
  (hg:guardA ops ⟨Si,c⟩ ⟨d,.call ⟨.value (.func f),#[x,xn],tys⟩,ty,pos,aft,gd⟩=some true) (hx:opd Si x=some (PT b o)) (hxn:opd Si xn=some (.v (.int k z))) (hp:nthA q c=some (boxA b T' cells,cr)) (hj:cells[o]?=some (.v (.int k y))) (hd:dstOK n d=true) :
  StepX X n ops p Si c (.abs (boxA b T' (cells.set o (.v (.int k s))))::cr) j ⟨d,.call ⟨.value (.func f),#[x,xn],tys⟩,ty,pos,aft,gd⟩ (.v (.int k s)) :=
 StepX.val hg hd (fun e a w S r r'=>by
  have h1:=opd_sound r' hx
  have h3:=opd_sound r' hxn
  simp only [Rep] at h1 h3
  have hc:=box_cell (r.heap.nth hp).1 hj
  refine ⟨.int k s,_,e,run_ext a.eval rfl w _ ?_,box_write (st:=⟨S,c⟩) r hp hj rfl,by simp only [Rep]⟩
  have:=run_call_add (P:=P) hf hname hb hn k he (y:=z) hc.1 hc.2 (hs w)
  simpa [h1,h3] using this)

def FnD (P:Program) (f:FuncId) (args:List AV) (cs:List Abs) (post:AV→List Abs→Prop):Prop :=
 Callable P f∧∀ (u:FrameMode) (G:IM) (w:World) (cargs:List Value),ImOK G w→RepIT G args cargs→AbsOK G w cs →
  CallsD P f cargs.toArray u w fun en u' w'=>u'=u∧∃ r cr cs' G',post r cs'∧en=.returned cr∧RepI G' r cr∧IM.le G G' ∧
   NewAt G G' w.heap.size (blocks cs)∧ImOK G' w'∧AbsOK G' w' cs' ∧
   (∀ b∈blocks cs',w.heap.size≤b∨b∈blocks cs) ∧
   w'.os=w.os∧w'.tape=w.tape∧w'.output=w.output∧w.heap.size≤w'.heap.size∧∀ k,k<w.heap.size→k∉blocks cs→G.still k→w'.heap[k]?=w.heap[k]?

theorem FnD.intro (ok:TabOK P T) (wide:P.follows .mixedOrders=true) {f:FuncId} {fn:Func} {c:Code} {args:List AV} {cs:List Abs} {post:AV→List Abs→Prop} (hf:P.funcs[f]?=some fn) (hb:fn.body=some c)
  (hn : (fn.name == "runtime.NumGoroutine") = false) (hargs : Nat.ble args.length fn.ntmps = true)
  (h:∀ X:Ctx P T,SymC X fn.ntmps c ⟨enumA 0 args,cs.map Ch.abs⟩ (EndsX T fn.results post)):FnD P f args cs post:=by
 refine ⟨⟨fn,hf,by simp [hb],hn⟩,?_⟩
 intro u G w cargs him hrep hcs
 have hargs:=Nat.le_of_ble_eq_true hargs
 refine callsD_of_wp hf hb ?_
 let X:Ctx P T:=⟨ok,wide,w,G,blocks cs,fun _=>0,fun _ _ _=>False,[]⟩
 let e:Env:=⟨G,fun _=>0,fun _=>undef⟩
 have hheap:HeapOK X e w (cs.map Ch.abs):=by
  refine ⟨cs.map (fun A=>(Ch.abs A,A.bs)),by simp [Function.comp_def],?_,by rw [flat_abs];exact hcs.2.1,?_⟩
  ·intro p hp
   obtain ⟨A,hA,rfl⟩:=List.mem_map.1 hp
   exact ⟨rfl,hcs.1 A hA⟩
  ·rw [flat_abs]
   intro b hb
   exact ⟨(hcs.2.2 b hb).1,.inr hb,(hcs.2.2 b hb).2⟩
 have r:Rel X fn.ntmps e ⟨enumA 0 args,cs.map Ch.abs⟩ { tmps:=cargs.toArray++Array.replicate (fn.ntmps-cargs.toArray.size) undef,defers:=[] } w :=
  Rel.enter rfl rfl him (RepIT.toRep (e:=e) args hrep) hargs hheap rfl
 refine Code.wp_mono (fun ex a' w' hc=>?_) (h X e _ w r)
 have fin:∀ (e':Env) (st':St),Rel X fn.ntmps e' st' a' w'→(∃ r cs rest,resA T st' fn.results.toList=some r∧st'.c.Perm (cs.map Ch.abs++rest)∧r.imm=true∧post r cs) →
   a'.defers=[]∧∃ v,(results fn a'.tmps).run P w'=.ok v w'∧(∃ r cr cs' G',post r cs'∧Ending.returned v=.returned cr∧RepI G' r cr∧IM.le G G' ∧
   NewAt G G' w.heap.size (blocks cs)∧ImOK G' w'∧AbsOK G' w' cs' ∧
   (∀ b∈blocks cs',w.heap.size≤b∨b∈blocks cs) ∧
   w'.os=w.os∧w'.tape=w.tape∧w'.output=w.output∧w.heap.size≤w'.heap.size∧∀ k,k<w.heap.size→k∉blocks cs→G.still k→w'.heap[k]?=w.heap[k]?):=by
  intro e' st' hr ⟨x,cs',rest,h1,hk,h2,h3⟩
  obtain ⟨v,h5,h6⟩:=resA_sound hr h1
  obtain ⟨q1,q2⟩:=(hr.heap.perm hk).absOK
  refine ⟨hr.defers,v,h5,x,v,cs',e'.G,h3,rfl,Rep.toI x h2 h6,hr.le,⟨hr.new,hr.newm⟩,⟨hr.im,hr.mz⟩,q1,q2,hr.os,hr.tape,hr.output,hr.sz,fun k hk hnin hs=>hr.keep k hk hnin hs⟩
 cases ex with
 | normal=>obtain ⟨e',st',h1,h2⟩:=hc;exact fin e' st' h1 h2
 | ret=>obtain ⟨e',st',h1,h2⟩:=hc;exact fin e' st' h1 h2
 | exit id=>obtain ⟨e',st',h1,h2⟩:=hc;exact h2.elim
 | goto l=>obtain ⟨e',st',h1,h2⟩:=hc;exact h2.elim
 | panic ch=>exact hc.2.elim
 | outgrown=>exact hc.elim

end
end Go.Sy

namespace Go.Sy
open Go.RowKit

def TrA (G:IM) (w:World) (cs:List Abs) (G':IM) (w':World) (cs':List Abs):Prop :=
 IM.le G G'∧NewAt G G' w.heap.size (blocks cs)∧ImOK G' w'∧AbsOK G' w' cs'∧(∀ b∈blocks cs',w.heap.size≤b∨b∈blocks cs) ∧
  w'.os=w.os∧w'.tape=w.tape∧w'.output=w.output∧w.heap.size≤w'.heap.size∧∀ k,k<w.heap.size→k∉blocks cs→G.still k→w'.heap[k]?=w.heap[k]?

theorem TrA.trans {G G1 G2:IM} {w w1 w2:World} {cs cs1 cs2:List Abs} (h1:TrA G w cs G1 w1 cs1) (h2:TrA G1 w1 cs1 G2 w2 cs2):TrA G w cs G2 w2 cs2:=by
 obtain ⟨a1,a2,a3,a4,a5,a6,a7,a8,a9,a10⟩:=h1
 obtain ⟨b1,b2,b3,b4,b5,b6,b7,b8,b9,b10⟩:=h2
 refine ⟨IM.le_trans a1 b1,⟨fun b o v hv=>?_,fun b x hx=>?_⟩,b3,b4,fun b hb=>?_,by rw [b6,a6],by rw [b7,a7],by rw [b8,a8],by omega,fun k hk hn hs=>?_⟩
 ·rcases b2.1 b o v hv with h|h|h
  ·exact a2.1 b o v h
  ·exact .inr (.inl (by omega))
  ·exact .inr (a5 b h)
 ·rcases b2.2 b x hx with h|h|h
  ·exact a2.2 b x h
  ·exact .inr (.inl (by omega))
  ·exact .inr (a5 b h)
 ·rcases b5 b hb with h|h
  ·exact .inl (by omega)
  ·exact a5 b h
 ·rw [b10 k (by omega) (fun hin=>?_) (fun L hL=>?_),a10 k hk hn hs]
  ·rcases a5 k hin with h|h
   ·omega
   ·exact hn h
  ·rcases a2.2 k _ hL with h|h|h
   ·exact hs L h
   ·omega
   ·exact hn h
end Go.Sy

namespace Go.Sy
open Go.RowKit

section
variable {P:Program} {T:Tab} {X:Ctx P T} {n:Nat} {e:Env} {st:St} {a:Act} {w:World} {ops:Array Oper} {K:St→Prop}

end
end Go.Sy

namespace Go.Sy
open Go.RowKit

def OpensB (N:Nat) (P:Program) (t:Nat) {α:Type} (cells:α→List AV) (ok:α→Prop):Prop :=
 ∀ (H:Type) (enc:TypeId×Value→H) (W:World) (fuel:Nat) (cs:List Value) (d:DataW H) (ps:List MemPlace),fuel≤N →
  DataW.trod enc P W 0 (fun _=>true) true fuel t cs=some (d,ps)→∃ x:α,ok x∧RepIL (memG W) (cells x) cs
theorem OpensT.toB {P:Program} {t:Nat} {α:Type} {cells:α→List AV} {ok:α→Prop} (h:OpensT P t cells ok) (N:Nat):OpensB N P t cells ok:=fun H enc W fuel cs d ps _ hr=>h H enc W fuel cs d ps hr
theorem OpensT.ofB {P:Program} {t:Nat} {α:Type} {cells:α→List AV} {ok:α→Prop} (h:∀ N,OpensB N P t cells ok):OpensT P t cells ok:=fun H enc W fuel cs d ps hr=>h fuel H enc W fuel cs d ps (Nat.le_refl _) hr
theorem OpensB.mono {N M:Nat} {P:Program} {t:Nat} {α:Type} {cells:α→List AV} {ok:α→Prop} (h:OpensB N P t cells ok) (hM:M≤N):OpensB M P t cells ok:=fun H enc W fuel cs d ps h0 hr=>h H enc W fuel cs d ps (by omega) hr
theorem OpensB.zero {P:Program} {t:Nat} {α:Type} {cells:α→List AV} {ok:α→Prop}:OpensB 0 P t cells ok:=fun H enc W fuel cs d ps h0 hr=>by
 have:fuel=0:=by omega
 subst this
 simp [DataW.trod] at hr

theorem opensB_slice {N:Nat} {P:Program} {t e:Nat} {α:Type} [Inhabited α] {cells:α→List AV} {ok:α→Prop} {esz:Nat} (h:P.underlying t=some (.slice e)) (hsz:P.cellsOf e=esz) (hpos:0<esz)
  (hlen:∀ x,(cells x).length=esz) (he:OpensB N P e cells ok) :
  OpensB (N+1) P t (fun l:List α=>[SL esz cells l]) (fun l=>l.length≤maxLen∧∀ i,i<l.length→ok (l.getD i default)):=by
 intro H enc W fuel cs d ps hN hr
 cases fuel with
 | zero=>simp [DataW.trod] at hr
 | succ fuel =>
  unfold DataW.trod at hr
  rw [h] at hr
  simp only at hr
  split at hr<;>try (simp_all;done)
  ·refine ⟨[],⟨by simp,by simp⟩,?_⟩
   simp only [RepIL,RepI]
   exact ⟨_,[],rfl,⟨none,0,rfl,Nat.le_refl _,.inl rfl⟩,rfl,rfl⟩
  ·rename_i e' a len cap heq
   cases heq
   split at hr
   ·rename_i hc
    obtain ⟨_,hlc,hcm⟩:=hc
    cases hm:(List.range len).mapM (fun i=>(W.cells? 0 (a.add (i*P.cellsOf e)) (P.cellsOf e)).bind (DataW.trod enc P W 0 (fun _=>true) true fuel e)) with
    | none=>rw [hm] at hr;simp at hr
    | some xs =>
     have key:∀ i,i<len→∃ x:α,ok x∧∃ row:List Value,W.cells? 0 (a.add (i*esz)) esz=some row∧RepIL (memG W) (cells x) row:=by
      intro i hi
      obtain ⟨x,hx,_⟩:=mapM_get hm i i (List.getElem?_range hi)
      rw [hsz] at hx
      cases hrow:W.cells? 0 (a.add (i*esz)) esz with
      | none=>rw [hrow] at hx;simp at hx
      | some row =>
       rw [hrow] at hx
       simp only [Option.bind_some] at hx
       obtain ⟨y,hy,hyr⟩:=he H enc W fuel row x.1 x.2 (by omega) hx
       exact ⟨y,hy,row,rfl,hyr⟩
     obtain ⟨l,hl,hq⟩:=choose_list (Q:=fun i x=>ok x∧∃ row:List Value,W.cells? 0 (a.add (i*esz)) esz=some row∧RepIL (memG W) (cells x) row) len key
     have cellsq:∀ (ad:Addr) (row:List Value),W.cells? 0 ad esz=some row→∀ (j:Nat) (z:Value),row[j]?=some z→W.cell? (ad.add j)=some z:=by
      intro ad row hrow j z hz
      unfold World.cells? at hrow
      rw [if_pos (Nat.zero_le _)] at hrow
      have hjl:j<esz:=by
       have:=mapM_len hrow
       rcases Nat.lt_or_ge j esz with h|h
       ·exact h
       ·rw [List.getElem?_eq_none (by rw [this];simpa using h)] at hz;cases hz
      obtain ⟨x,hx,hx2⟩:=mapM_get hrow j j (List.getElem?_range hjl)
      rw [hx2] at hz;cases hz
      exact hx
     refine ⟨l,⟨by omega,fun i hi=>(hq i (by omega)).1⟩,?_⟩
     simp only [RepIL]
     refine ⟨_,[],rfl,?_,rfl,rfl⟩
     simp only [RepI]
     refine ⟨some a,cap,by rw [hl],by omega,?_⟩
     rcases Nat.eq_zero_or_pos len with h0|h0
     ·exact .inl (by omega)
     ·refine .inr ?_
      have hspot:a.spot=none:=by
       obtain ⟨_,row,hrow,hrep⟩:=hq 0 h0
       have hrl:=RepIL.len hrep
       rw [hlen] at hrl
       have h1:=cellsq _ row hrow 0 (row[0]'(by omega)) (by simp)
       simp only [Nat.zero_mul] at h1
       have:((a.add 0).add 0)=a:=by simp [Addr.add]
       rw [this] at h1
       exact World.cell?_spot h1
      obtain ⟨b,o,sp⟩:=a
      simp only at hspot
      subst hspot
      refine ⟨b,o,rfl,fun i hi=>CellsAt.mk (fun j c hc=>?_)⟩
      obtain ⟨_,row,hrow,hrep⟩:=hq i (by omega)
      obtain ⟨z,z1,z2,z3⟩:=hrep.get j c hc
      refine ⟨z,?_,z2,z3⟩
      have:=cellsq _ row hrow j z z1
      rw [add_addr,add_addr] at this
      show W.cell? ⟨b,o+i*esz+j,none⟩=some z
      exact this
   ·cases hr

def OpensFB (N:Nat) (P:Program) (l:List Field) (start total:Nat) {α:Type} (cells:α→List AV) (ok:α→Prop):Prop :=
 ∀ (H:Type) (enc:TypeId×Value→H) (W:World) (fuel:Nat) (cs:List Value) (xs:List (DataW H×List MemPlace)),fuel≤N→cs.length=total →
  l.mapM (fun f=>DataW.trod enc P W 0 (fun _=>true) true fuel f.type ((cs.drop f.offset).take (P.cellsOf f.type)))=some xs→∃ x:α,ok x∧RepIL (memG W) (cells x) (cs.drop start)

theorem opensFB_nil {N:Nat} {P:Program} {total:Nat}:OpensFB N P [] total total (fun _:Unit=>[]) (fun _=>True):=by
 intro H enc W fuel cs xs _ hl _
 exact ⟨(),trivial,by simp only [RepIL];exact List.drop_eq_nil_of_le (by omega)⟩

theorem opensFB_cons {N:Nat} {P:Program} {f:Field} {l:List Field} {start total sz:Nat} {α β:Type} {cells:α→List AV} {ok:α→Prop} {cells2:β→List AV} {ok2:β→Prop}
  (hoff:f.offset=start) (hsz:P.cellsOf f.type=sz) (h1:OpensB N P f.type cells ok) (h2:OpensFB N P l (start+sz) total cells2 ok2) :
  OpensFB N P (f::l) start total (fun p:α×β=>cells p.1++cells2 p.2) (fun p=>ok p.1∧ok2 p.2):=by
 intro H enc W fuel cs xs hN hl hm
 rw [List.mapM_cons] at hm
 cases hb:DataW.trod enc P W 0 (fun _=>true) true fuel f.type ((cs.drop f.offset).take (P.cellsOf f.type)) with
 | none=>simp [hb] at hm
 | some y =>
  cases hr:l.mapM (fun f=>DataW.trod enc P W 0 (fun _=>true) true fuel f.type ((cs.drop f.offset).take (P.cellsOf f.type))) with
  | none=>simp [hb,hr] at hm
  | some ys =>
   obtain ⟨x,hx,hxr⟩:=h1 H enc W fuel _ y.1 y.2 hN hb
   obtain ⟨x2,hx2,hxr2⟩:=h2 H enc W fuel cs ys hN hl hr
   refine ⟨(x,x2),⟨hx,hx2⟩,?_⟩
   rw [hoff,hsz] at hxr
   have:=hxr.app hxr2
   rwa [← List.drop_drop,List.take_append_drop] at this

theorem opensB_struct {N:Nat} {P:Program} {t total:Nat} {fs:Array Field} {α β:Type} {cells:α→List AV} {ok:α→Prop} {cells2:β→List AV} (g:α→β) (h:P.underlying t=some (.struct fs)) (hsz:P.cellsOf t=total)
  (hf:OpensFB N P fs.toList 0 total cells ok) (hg:∀ x G ys,RepIL G (cells x) ys→RepIL G (cells2 (g x)) ys) {ok2:β→Prop} (hok:∀ x,ok x→ok2 (g x)):OpensB (N+1) P t cells2 ok2:=by
 intro H enc W fuel cs d ps hN hr
 cases fuel with
 | zero=>simp [DataW.trod] at hr
 | succ fuel =>
  unfold DataW.trod at hr
  rw [h] at hr
  simp only at hr
  split at hr<;>try (simp_all;done)
  rename_i hc
  cases hm:fs.toList.mapM (fun f=>DataW.trod enc P W 0 (fun _=>true) true fuel f.type ((cs.drop f.offset).take (P.cellsOf f.type))) with
  | none=>rw [hm] at hr;simp at hr
  | some xs =>
   obtain ⟨x,hx,hxr⟩:=hf H enc W fuel cs xs (by omega) (by rw [hc,hsz]) hm
   exact ⟨g x,hok x hx,hg _ _ _ (by simpa using hxr)⟩

theorem repI_rows {G:IM} {n esz:Nat} {row row':Nat→List AV} {y:Value} (hr:∀ i,i<n→row i=row' i) (h:RepI G (.sl n esz row) y):RepI G (.sl n esz row') y:=by
 simp only [RepI] at h ⊢
 obtain ⟨a,c,e,hc,r⟩:=h
 refine ⟨a,c,e,hc,?_⟩
 rcases r with r|⟨b,o,ea,r⟩
 ·exact .inl r
 ·exact .inr ⟨b,o,ea,fun i hi=>by rw [← hr i hi];exact r i hi⟩
end Go.Sy

namespace Go.Sy
open Go.RowKit

section
variable {P:Program} {T:Tab} {X:Ctx P T} {n:Nat} {e:Env} {st:St} {a:Act} {w:World} {ops:Array Oper} {K:St→Prop}

end
end Go.Sy

namespace Go.Proofs
open Go.Sy
abbrev nf:Option TI:=some ⟨1,8,false,[.nilFunc],.other⟩
def Tryz.tabF:Tab:=fun t =>
 (bif Nat.blt t 143 then
 (bif Nat.blt t 71 then
 (bif Nat.blt t 34 then
  (bif Nat.blt t 17 then
  (bif Nat.blt t 9 then
   (bif Nat.blt t 5 then
   (bif Nat.blt t 3 then
    (bif Nat.blt t 2 then
    (bif Nat.beq t 1 then nf else none)
    else some ⟨1,8,false,[.int .i64 0],.int .i64⟩)
    else (bif Nat.blt t 4 then
    some ⟨1,8,false,[.int .i64 0],.int .i64⟩
    else some ⟨1,1,false,[.bool false],.bool⟩))
   else (bif Nat.blt t 7 then
    (bif Nat.blt t 6 then
    some ⟨1,1,false,[.int .u8 0],.int .u8⟩
    else some ⟨1,1,false,[.int .u8 0],.int .u8⟩)
    else (bif Nat.blt t 8 then
    some ⟨4,24,true,[.int .i64 0,.int .i64 0,.bool false,.int .u8 0],.struct [(0,1),(1,1),(2,1),(3,1)]⟩
    else some ⟨4,24,true,[.int .i64 0,.int .i64 0,.bool false,.int .u8 0],.struct [(0,1),(1,1),(2,1),(3,1)]⟩)))
   else (bif Nat.blt t 13 then
   (bif Nat.blt t 11 then
    (bif Nat.blt t 10 then
    some ⟨1,16,false,[.string ⟨#[]⟩],.str⟩
    else some ⟨1,16,false,[.string ⟨#[]⟩],.str⟩)
    else (bif Nat.blt t 12 then
    some ⟨1,16,false,[.string ⟨#[]⟩],.str⟩
    else some ⟨1,8,false,[.int .u64 0],.int .u64⟩))
   else (bif Nat.blt t 15 then
    (bif Nat.blt t 14 then
    some ⟨2,24,true,[.string ⟨#[]⟩,.int .u64 0],.struct [(0,1),(1,1)]⟩
    else some ⟨2,24,true,[.string ⟨#[]⟩,.int .u64 0],.struct [(0,1),(1,1)]⟩)
    else (bif Nat.blt t 16 then
    some ⟨1,8,false,[.pointer none],.other⟩
    else some ⟨1,8,false,[.pointer none],.other⟩))))
  else (bif Nat.blt t 25 then
   (bif Nat.blt t 21 then
   (bif Nat.blt t 19 then
    (bif Nat.blt t 18 then
    some ⟨1,8,false,[.pointer none],.other⟩
    else some ⟨1,8,true,[.pointer none],.struct [(0,1)]⟩)
    else (bif Nat.blt t 20 then
    some ⟨1,8,true,[.pointer none],.struct [(0,1)]⟩
    else some ⟨1,16,false,[.nilIface],.other⟩))
   else (bif Nat.blt t 23 then
    (bif Nat.blt t 22 then
    some ⟨1,4,false,[.int .i32 0],.int .i32⟩
    else some ⟨1,24,false,[.slice none 0 0],.slice 53⟩)
    else (bif Nat.blt t 24 then
    some ⟨1,24,false,[.slice none 0 0],.slice 3⟩
    else some ⟨1,24,false,[.slice none 0 0],.slice 26⟩)))
   else (bif Nat.blt t 29 then
   (bif Nat.blt t 27 then
    (bif Nat.blt t 26 then
    some ⟨5,80,true,[.int .i64 0,.int .i64 0,.string ⟨#[]⟩,.slice none 0 0,.slice none 0 0],.struct [(0,1),(1,1),(2,1),(3,1),(4,1)]⟩
    else some ⟨5,80,true,[.int .i64 0,.int .i64 0,.string ⟨#[]⟩,.slice none 0 0,.slice none 0 0],.struct [(0,1),(1,1),(2,1),(3,1),(4,1)]⟩)
    else (bif Nat.blt t 28 then
    some ⟨2,24,true,[.string ⟨#[]⟩,.int .i64 0],.struct [(0,1),(1,1)]⟩
    else some ⟨2,24,true,[.string ⟨#[]⟩,.int .i64 0],.struct [(0,1),(1,1)]⟩))
   else (bif Nat.blt t 31 then
    (bif Nat.blt t 30 then
    nf
    else nf)
    else (bif Nat.blt t 32 then
    nf
    else (bif Nat.beq t 32 then some ⟨1,8,false,[.pointer none],.other⟩ else none))))))
  else (bif Nat.blt t 53 then
  (bif Nat.blt t 44 then
   (bif Nat.blt t 40 then
   (bif Nat.blt t 37 then
    (bif Nat.blt t 35 then
    nf
    else (bif Nat.beq t 35 then some ⟨1,8,false,[.int .i64 0],.int .i64⟩ else none))
    else (bif Nat.blt t 39 then
    (bif Nat.beq t 37 then nf else none)
    else nf))
   else (bif Nat.blt t 42 then
    (bif Nat.blt t 41 then
    nf
    else nf)
    else (bif Nat.blt t 43 then
    nf
    else nf)))
   else (bif Nat.blt t 49 then
   (bif Nat.blt t 46 then
    (bif Nat.blt t 45 then
    nf
    else some ⟨6,96,true,[.string ⟨#[]⟩,.int .i64 0,.int .i64 0,.string ⟨#[]⟩,.slice none 0 0,.slice none 0 0],.struct [(0,1),(1,5)]⟩)
    else (bif Nat.blt t 48 then
    (bif Nat.beq t 46 then some ⟨6,96,true,[.string ⟨#[]⟩,.int .i64 0,.int .i64 0,.string ⟨#[]⟩,.slice none 0 0,.slice none 0 0],.struct [(0,1),(1,5)]⟩ else none)
    else nf))
   else (bif Nat.blt t 51 then
    (bif Nat.blt t 50 then
    nf
    else some ⟨1,24,false,[.slice none 0 0],.slice 60⟩)
    else (bif Nat.blt t 52 then
    some ⟨1,24,false,[.slice none 0 0],.slice 127⟩
    else some ⟨5,80,true,[.int .i64 0,.string ⟨#[]⟩,.slice none 0 0,.slice none 0 0,.int .i64 0],.struct [(0,1),(1,1),(2,1),(3,1),(4,1)]⟩))))
  else (bif Nat.blt t 61 then
   (bif Nat.blt t 57 then
   (bif Nat.blt t 55 then
    (bif Nat.blt t 54 then
    some ⟨5,80,true,[.int .i64 0,.string ⟨#[]⟩,.slice none 0 0,.slice none 0 0,.int .i64 0],.struct [(0,1),(1,1),(2,1),(3,1),(4,1)]⟩
    else nf)
    else (bif Nat.blt t 56 then
    nf
    else some ⟨1,24,false,[.slice none 0 0],.slice 58⟩))
   else (bif Nat.blt t 59 then
    (bif Nat.blt t 58 then
    some ⟨3,48,true,[.int .i64 0,.string ⟨#[]⟩,.slice none 0 0],.struct [(0,1),(1,1),(2,1)]⟩
    else some ⟨3,48,true,[.int .i64 0,.string ⟨#[]⟩,.slice none 0 0],.struct [(0,1),(1,1),(2,1)]⟩)
    else (bif Nat.blt t 60 then
    some ⟨5,72,true,[.int .i64 0,.string ⟨#[]⟩,.int .i64 0,.string ⟨#[]⟩,.slice none 0 0],.struct [(0,1),(1,1),(2,3)]⟩
    else some ⟨5,72,true,[.int .i64 0,.string ⟨#[]⟩,.int .i64 0,.string ⟨#[]⟩,.slice none 0 0],.struct [(0,1),(1,1),(2,3)]⟩)))
   else (bif Nat.blt t 66 then
   (bif Nat.blt t 64 then
    (bif Nat.blt t 62 then
    some ⟨2,16,true,[.int .i64 0,.int .i64 0],.struct [(0,1),(1,1)]⟩
    else (bif Nat.beq t 62 then some ⟨2,16,true,[.int .i64 0,.int .i64 0],.struct [(0,1),(1,1)]⟩ else none))
    else (bif Nat.blt t 65 then
    nf
    else nf))
   else (bif Nat.blt t 68 then
    (bif Nat.blt t 67 then
    nf
    else some ⟨1,8,true,[.int .i64 0],.struct [(0,1)]⟩)
    else (bif Nat.blt t 70 then
    (bif Nat.beq t 68 then some ⟨1,8,true,[.int .i64 0],.struct [(0,1)]⟩ else none)
    else nf))))))
 else (bif Nat.blt t 105 then
  (bif Nat.blt t 89 then
  (bif Nat.blt t 79 then
   (bif Nat.blt t 75 then
   (bif Nat.blt t 73 then
    (bif Nat.blt t 72 then
    some ⟨1,8,false,[.pointer none],.other⟩
    else some ⟨3,24,true,[.pointer none,.int .i64 0,.int .i64 0],.struct [(0,1),(1,1),(2,1)]⟩)
    else (bif Nat.blt t 74 then
    some ⟨3,24,true,[.pointer none,.int .i64 0,.int .i64 0],.struct [(0,1),(1,1),(2,1)]⟩
    else nf))
   else (bif Nat.blt t 77 then
    (bif Nat.blt t 76 then
    nf
    else nf)
    else (bif Nat.blt t 78 then
    nf
    else nf)))
   else (bif Nat.blt t 83 then
   (bif Nat.blt t 81 then
    (bif Nat.blt t 80 then
    some ⟨1,8,false,[.pointer none],.other⟩
    else some ⟨7,96,true,[.pointer none,.pointer none,.int .i64 0,.string ⟨#[]⟩,.slice none 0 0,.slice none 0 0,.int .i64 0],.struct [(0,1),(1,1),(2,5)]⟩)
    else (bif Nat.blt t 82 then
    some ⟨7,96,true,[.pointer none,.pointer none,.int .i64 0,.string ⟨#[]⟩,.slice none 0 0,.slice none 0 0,.int .i64 0],.struct [(0,1),(1,1),(2,5)]⟩
    else nf))
   else (bif Nat.blt t 87 then
    (bif Nat.blt t 85 then
    (bif Nat.beq t 83 then nf else none)
    else (bif Nat.beq t 85 then nf else none))
    else (bif Nat.blt t 88 then
    nf
    else nf))))
  else (bif Nat.blt t 97 then
   (bif Nat.blt t 93 then
   (bif Nat.blt t 91 then
    (bif Nat.blt t 90 then
    nf
    else some ⟨0,0,true,[],.struct []⟩)
    else (bif Nat.blt t 92 then
    some ⟨0,0,true,[],.struct []⟩
    else some ⟨0,0,true,[],.struct []⟩))
   else (bif Nat.blt t 95 then
    (bif Nat.blt t 94 then
    some ⟨1,4,false,[.int .u32 0],.int .u32⟩
    else some ⟨1,4,true,[.int .u32 0],.struct [(0,0),(0,1)]⟩)
    else (bif Nat.blt t 96 then
    some ⟨1,4,true,[.int .u32 0],.struct [(0,0),(0,1)]⟩
    else some ⟨2,8,true,[.int .i32 0,.int .u32 0],.struct [(0,1),(1,1)]⟩)))
   else (bif Nat.blt t 101 then
   (bif Nat.blt t 99 then
    (bif Nat.blt t 98 then
    some ⟨2,8,true,[.int .i32 0,.int .u32 0],.struct [(0,1),(1,1)]⟩
    else some ⟨2,8,true,[.int .i32 0,.int .u32 0],.struct [(0,0),(0,2)]⟩)
    else (bif Nat.blt t 100 then
    some ⟨2,8,true,[.int .i32 0,.int .u32 0],.struct [(0,0),(0,2)]⟩
    else some ⟨3,12,true,[.int .u32 0,.int .i32 0,.int .u32 0],.struct [(0,0),(0,1),(1,2)]⟩))
   else (bif Nat.blt t 103 then
    (bif Nat.blt t 102 then
    some ⟨3,12,true,[.int .u32 0,.int .i32 0,.int .u32 0],.struct [(0,0),(0,1),(1,2)]⟩
    else some ⟨1,8,false,[.pointer none],.other⟩)
    else (bif Nat.blt t 104 then
    some ⟨1,8,false,[.map none],.other⟩
    else some ⟨6,56,true,[.slice none 0 0,.int .u32 0,.int .i32 0,.int .u32 0,.pointer none,.map none],.struct [(0,1),(1,3),(4,1),(5,1)]⟩)))))
  else (bif Nat.blt t 124 then
  (bif Nat.blt t 115 then
   (bif Nat.blt t 109 then
   (bif Nat.blt t 107 then
    (bif Nat.blt t 106 then
    some ⟨6,56,true,[.slice none 0 0,.int .u32 0,.int .i32 0,.int .u32 0,.pointer none,.map none],.struct [(0,1),(1,3),(4,1),(5,1)]⟩
    else some ⟨1,8,false,[.pointer none],.other⟩)
    else (bif Nat.blt t 108 then
    some ⟨1,8,true,[.pointer none],.struct [(0,1)]⟩
    else some ⟨1,8,true,[.pointer none],.struct [(0,1)]⟩))
   else (bif Nat.blt t 112 then
    (bif Nat.blt t 110 then
    nf
    else (bif Nat.beq t 110 then nf else none))
    else (bif Nat.blt t 114 then
    (bif Nat.beq t 112 then nf else none)
    else nf)))
   else (bif Nat.blt t 120 then
   (bif Nat.blt t 118 then
    (bif Nat.blt t 117 then
    (bif Nat.beq t 115 then nf else none)
    else nf)
    else (bif Nat.blt t 119 then
    nf
    else some ⟨1,8,false,[.pointer none],.other⟩))
   else (bif Nat.blt t 122 then
    (bif Nat.blt t 121 then
    some ⟨1,8,true,[.pointer none],.struct [(0,1)]⟩
    else some ⟨1,8,true,[.pointer none],.struct [(0,1)]⟩)
    else (bif Nat.blt t 123 then
    nf
    else nf))))
  else (bif Nat.blt t 133 then
   (bif Nat.blt t 128 then
   (bif Nat.blt t 126 then
    (bif Nat.blt t 125 then
    nf
    else nf)
    else (bif Nat.blt t 127 then
    some ⟨5,64,true,[.int .i64 0,.string ⟨#[]⟩,.string ⟨#[]⟩,.string ⟨#[]⟩,.bool false],.struct [(0,1),(1,1),(2,1),(3,1),(4,1)]⟩
    else some ⟨5,64,true,[.int .i64 0,.string ⟨#[]⟩,.string ⟨#[]⟩,.string ⟨#[]⟩,.bool false],.struct [(0,1),(1,1),(2,1),(3,1),(4,1)]⟩))
   else (bif Nat.blt t 131 then
    (bif Nat.blt t 129 then
    nf
    else (bif Nat.beq t 129 then nf else none))
    else (bif Nat.blt t 132 then
    nf
    else nf)))
   else (bif Nat.blt t 138 then
   (bif Nat.blt t 135 then
    (bif Nat.blt t 134 then
    nf
    else nf)
    else (bif Nat.blt t 137 then
    (bif Nat.beq t 135 then some ⟨1,24,false,[.slice none 0 0],.slice 143⟩ else none)
    else nf))
   else (bif Nat.blt t 140 then
    (bif Nat.blt t 139 then
    some ⟨1,8,false,[.pointer none],.other⟩
    else some ⟨4,48,true,[.slice none 0 0,.int .i64 0,.int .i64 0,.int .i64 0],.struct [(0,1),(1,1),(2,2)]⟩)
    else (bif Nat.blt t 141 then
    some ⟨4,48,true,[.slice none 0 0,.int .i64 0,.int .i64 0,.int .i64 0],.struct [(0,1),(1,1),(2,2)]⟩
    else (bif Nat.blt t 142 then
     nf
     else some ⟨4,40,true,[.int .i64 0,.string ⟨#[]⟩,.int .i64 0,.int .i64 0],.struct [(0,1),(1,1),(2,1),(3,1)]⟩))))))))
 else (bif Nat.blt t 214 then
 (bif Nat.blt t 179 then
  (bif Nat.blt t 159 then
  (bif Nat.blt t 151 then
   (bif Nat.blt t 147 then
   (bif Nat.blt t 145 then
    (bif Nat.blt t 144 then
    some ⟨4,40,true,[.int .i64 0,.string ⟨#[]⟩,.int .i64 0,.int .i64 0],.struct [(0,1),(1,1),(2,1),(3,1)]⟩
    else nf)
    else (bif Nat.blt t 146 then
    some ⟨1,8,false,[.pointer none],.other⟩
    else nf))
   else (bif Nat.blt t 149 then
    (bif Nat.blt t 148 then
    some ⟨2,32,true,[.slice none 0 0,.pointer none],.struct [(0,1),(1,1)]⟩
    else some ⟨2,32,true,[.slice none 0 0,.pointer none],.struct [(0,1),(1,1)]⟩)
    else (bif Nat.blt t 150 then
    nf
    else some ⟨1,24,false,[.slice none 0 0],.slice 4⟩)))
   else (bif Nat.blt t 155 then
   (bif Nat.blt t 153 then
    (bif Nat.blt t 152 then
    nf
    else nf)
    else (bif Nat.blt t 154 then
    nf
    else some ⟨1,8,false,[.pointer none],.other⟩))
   else (bif Nat.blt t 157 then
    (bif Nat.blt t 156 then
    some ⟨1,24,false,[.slice none 0 0],.slice 5⟩
    else some ⟨2,32,true,[.pointer none,.slice none 0 0],.struct [(0,1),(1,1)]⟩)
    else (bif Nat.blt t 158 then
    some ⟨2,32,true,[.pointer none,.slice none 0 0],.struct [(0,1),(1,1)]⟩
    else some ⟨1,16,false,[.nilIface],.other⟩))))
  else (bif Nat.blt t 168 then
   (bif Nat.blt t 164 then
   (bif Nat.blt t 162 then
    (bif Nat.blt t 161 then
    (bif Nat.beq t 159 then some ⟨1,16,false,[.nilIface],.other⟩ else none)
    else nf)
    else (bif Nat.blt t 163 then
    nf
    else nf))
   else (bif Nat.blt t 166 then
    (bif Nat.blt t 165 then
    nf
    else nf)
    else (bif Nat.blt t 167 then
    nf
    else nf)))
   else (bif Nat.blt t 173 then
   (bif Nat.blt t 170 then
    (bif Nat.blt t 169 then
    nf
    else some ⟨1,8,false,[.map none],.other⟩)
    else (bif Nat.blt t 171 then
    some ⟨2,32,true,[.map none,.slice none 0 0],.struct [(0,1),(1,1)]⟩
    else (bif Nat.beq t 171 then some ⟨2,32,true,[.map none,.slice none 0 0],.struct [(0,1),(1,1)]⟩ else none)))
   else (bif Nat.blt t 175 then
    (bif Nat.blt t 174 then
    nf
    else some ⟨1,8,false,[.int .i64 0],.int .i64⟩)
    else (bif Nat.blt t 177 then
    (bif Nat.beq t 175 then some ⟨1,8,false,[.int .u64 0],.int .u64⟩ else none)
    else (bif Nat.beq t 177 then nf else none))))))
  else (bif Nat.blt t 197 then
  (bif Nat.blt t 188 then
   (bif Nat.blt t 184 then
   (bif Nat.blt t 182 then
    (bif Nat.blt t 180 then
    nf
    else (bif Nat.beq t 180 then nf else none))
    else (bif Nat.blt t 183 then
    nf
    else nf))
   else (bif Nat.blt t 186 then
    (bif Nat.blt t 185 then
    some ⟨1,16,false,[.nilIface],.other⟩
    else some ⟨1,16,false,[.nilIface],.other⟩)
    else (bif Nat.blt t 187 then
    nf
    else nf)))
   else (bif Nat.blt t 193 then
   (bif Nat.blt t 190 then
    (bif Nat.blt t 189 then
    nf
    else nf)
    else (bif Nat.blt t 192 then
    (bif Nat.beq t 190 then nf else none)
    else nf))
   else (bif Nat.blt t 195 then
    (bif Nat.blt t 194 then
    some ⟨1,8,false,[.int .u64 0],.int .u64⟩
    else nf)
    else (bif Nat.blt t 196 then
    some ⟨1,8,false,[.pointer none],.other⟩
    else some ⟨3,48,true,[.string ⟨#[]⟩,.int .i64 0,.slice none 0 0],.struct [(0,1),(1,1),(2,1)]⟩))))
  else (bif Nat.blt t 205 then
   (bif Nat.blt t 201 then
   (bif Nat.blt t 199 then
    (bif Nat.blt t 198 then
    some ⟨3,48,true,[.string ⟨#[]⟩,.int .i64 0,.slice none 0 0],.struct [(0,1),(1,1),(2,1)]⟩
    else nf)
    else (bif Nat.blt t 200 then
    nf
    else nf))
   else (bif Nat.blt t 203 then
    (bif Nat.blt t 202 then
    nf
    else nf)
    else (bif Nat.blt t 204 then
    some ⟨1,8,false,[.pointer none],.other⟩
    else some ⟨1,8,false,[.map none],.other⟩)))
   else (bif Nat.blt t 209 then
   (bif Nat.blt t 207 then
    (bif Nat.blt t 206 then
    some ⟨2,16,true,[.map none,.map none],.struct [(0,1),(1,1)]⟩
    else some ⟨2,16,true,[.map none,.map none],.struct [(0,1),(1,1)]⟩)
    else (bif Nat.blt t 208 then
    nf
    else nf))
   else (bif Nat.blt t 211 then
    (bif Nat.blt t 210 then
    nf
    else nf)
    else (bif Nat.blt t 212 then
    some ⟨1,8,false,[.pointer none],.other⟩
    else (bif Nat.blt t 213 then
     nf
     else nf)))))))
 else (bif Nat.blt t 246 then
  (bif Nat.blt t 230 then
  (bif Nat.blt t 222 then
   (bif Nat.blt t 218 then
   (bif Nat.blt t 216 then
    (bif Nat.blt t 215 then
    nf
    else some ⟨1,8,false,[.pointer none],.other⟩)
    else (bif Nat.blt t 217 then
    nf
    else nf))
   else (bif Nat.blt t 220 then
    (bif Nat.blt t 219 then
    some ⟨2,16,true,[.int .i64 0,.int .i64 0],.struct [(0,1),(1,1)]⟩
    else some ⟨2,16,true,[.int .i64 0,.int .i64 0],.struct [(0,1),(1,1)]⟩)
    else (bif Nat.blt t 221 then
    some ⟨1,1,true,[.bool false],.struct [(0,1)]⟩
    else some ⟨1,1,true,[.bool false],.struct [(0,1)]⟩)))
   else (bif Nat.blt t 226 then
   (bif Nat.blt t 224 then
    (bif Nat.blt t 223 then
    some ⟨0,0,true,[],.struct []⟩
    else some ⟨0,0,true,[],.struct []⟩)
    else (bif Nat.blt t 225 then
    some ⟨1,8,true,[.int .i64 0],.struct [(0,1)]⟩
    else some ⟨1,8,true,[.int .i64 0],.struct [(0,1)]⟩))
   else (bif Nat.blt t 228 then
    (bif Nat.blt t 227 then
    nf
    else nf)
    else (bif Nat.blt t 229 then
    nf
    else nf))))
  else (bif Nat.blt t 238 then
   (bif Nat.blt t 234 then
   (bif Nat.blt t 232 then
    (bif Nat.blt t 231 then
    nf
    else nf)
    else (bif Nat.blt t 233 then
    some ⟨1,24,false,[.slice none 0 0],.slice 9⟩
    else nf))
   else (bif Nat.blt t 236 then
    (bif Nat.blt t 235 then
    some ⟨1,8,false,[.pointer none],.other⟩
    else nf)
    else (bif Nat.blt t 237 then
    nf
    else some ⟨1,8,false,[.pointer none],.other⟩)))
   else (bif Nat.blt t 242 then
   (bif Nat.blt t 240 then
    (bif Nat.blt t 239 then
    nf
    else some ⟨1,8,false,[.pointer none],.other⟩)
    else (bif Nat.blt t 241 then
    nf
    else nf))
   else (bif Nat.blt t 244 then
    (bif Nat.blt t 243 then
    nf
    else nf)
    else (bif Nat.blt t 245 then
    nf
    else nf)))))
  else (bif Nat.blt t 263 then
  (bif Nat.blt t 255 then
   (bif Nat.blt t 251 then
   (bif Nat.blt t 248 then
    (bif Nat.blt t 247 then
    some ⟨1,8,false,[.pointer none],.other⟩
    else nf)
    else (bif Nat.blt t 250 then
    (bif Nat.beq t 248 then nf else none)
    else nf))
   else (bif Nat.blt t 253 then
    (bif Nat.blt t 252 then
    nf
    else nf)
    else (bif Nat.blt t 254 then
    nf
    else some ⟨1,8,false,[.pointer none],.other⟩)))
   else (bif Nat.blt t 259 then
   (bif Nat.blt t 257 then
    (bif Nat.blt t 256 then
    nf
    else some ⟨1,8,false,[.pointer none],.other⟩)
    else (bif Nat.blt t 258 then
    nf
    else nf))
   else (bif Nat.blt t 261 then
    (bif Nat.blt t 260 then
    nf
    else nf)
    else (bif Nat.blt t 262 then
    nf
    else nf))))
  else (bif Nat.blt t 273 then
   (bif Nat.blt t 269 then
   (bif Nat.blt t 266 then
    (bif Nat.blt t 265 then
    (bif Nat.beq t 263 then nf else none)
    else some ⟨2,2,true,[.int .u8 0,.int .u8 0],.struct [(0,1),(1,1)]⟩)
    else (bif Nat.blt t 267 then
    some ⟨2,2,true,[.int .u8 0,.int .u8 0],.struct [(0,1),(1,1)]⟩
    else (bif Nat.beq t 267 then some ⟨32,32,true,[.int .u8 0,.int .u8 0,.int .u8 0,.int .u8 0,.int .u8 0,.int .u8 0,.int .u8 0,.int .u8 0,.int .u8 0,.int .u8 0,.int .u8 0,.int .u8 0,.int .u8 0,.int .u8 0,.int .u8 0,.int .u8 0,.int .u8 0,.int .u8 0,.int .u8 0,.int .u8 0,.int .u8 0,.int .u8 0,.int .u8 0,.int .u8 0,.int .u8 0,.int .u8 0,.int .u8 0,.int .u8 0,.int .u8 0,.int .u8 0,.int .u8 0,.int .u8 0],.arr 16 266⟩ else none)))
   else (bif Nat.blt t 271 then
    (bif Nat.blt t 270 then
    nf
    else some ⟨4,40,true,[.pointer none,.pointer none,.pointer none,.string ⟨#[]⟩],.struct [(0,1),(1,1),(2,1),(3,1)]⟩)
    else (bif Nat.blt t 272 then
    some ⟨4,40,true,[.pointer none,.pointer none,.pointer none,.string ⟨#[]⟩],.struct [(0,1),(1,1),(2,1),(3,1)]⟩
    else some ⟨0,0,true,[],.arr 0 16⟩)))
   else (bif Nat.blt t 277 then
   (bif Nat.blt t 275 then
    (bif Nat.blt t 274 then
    some ⟨0,0,true,[],.struct [(0,0)]⟩
    else some ⟨0,0,true,[],.struct [(0,0)]⟩)
    else (bif Nat.blt t 276 then
    some ⟨1,1,false,[.int .u8 0],.int .u8⟩
    else some ⟨1,1,false,[.int .u8 0],.int .u8⟩))
   else (bif Nat.blt t 279 then
    (bif Nat.blt t 278 then
    nf
    else some ⟨1,4,false,[.int .i32 0],.int .i32⟩)
    else (bif Nat.blt t 280 then
    some ⟨1,4,false,[.int .i32 0],.int .i32⟩
    else (bif Nat.blt t 281 then
     some ⟨11,48,true,[.int .u64 0,.int .u64 0,.int .u32 0,.int .u8 0,.int .u8 0,.int .u8 0,.int .u8 0,.nilFunc,.pointer none,.int .i32 0,.int .i32 0],.struct [(0,1),(1,1),(2,1),(3,1),(4,1),(5,1),(6,1),(7,1),(8,1),(9,1),(10,1)]⟩
     else some ⟨11,48,true,[.int .u64 0,.int .u64 0,.int .u32 0,.int .u8 0,.int .u8 0,.int .u8 0,.int .u8 0,.nilFunc,.pointer none,.int .i32 0,.int .i32 0],.struct [(0,1),(1,1),(2,1),(3,1),(4,1),(5,1),(6,1),(7,1),(8,1),(9,1),(10,1)]⟩)))))))))
def Tryz.tab:Tab:=mkTab 282 Tryz.tabF
theorem Tryz.tabOK:TabOK Tryz.prog Tryz.tab:=Go.Sy.tabOK (by kernel_rfl)

theorem Tryz.wide_:Tryz.prog.follows .mixedOrders=true:=by kernel_rfl
end Go.Proofs
namespace Go.Proofs
open Go.Sy
theorem fnA {f:FuncId} {fn:Func} {c:Code} {args:List AV} {cs:List Abs} {post:AV→List Abs→Prop} (hf:Tryz.prog.funcs[f]?=some fn)
  (h : ∀ X : Ctx Tryz.prog Tryz.tab, SymC X fn.ntmps c ⟨enumA 0 args, cs.map Ch.abs⟩ (Sy.EndsX Tryz.tab fn.results post)) (hb : fn.body = some c := by exact rfl) (hn : (fn.name == "runtime.NumGoroutine") = false := by decide) (hargs : Nat.ble args.length fn.ntmps = true := by exact rfl) : FnA Tryz.prog f args cs post := FnA.intro Tryz.tabOK Tryz.wide_ hf hb hn hargs h
theorem fnP {f:FuncId} {fn:Func} {c:Code} {args:List AV} {post:AV→Prop} (hf:Tryz.prog.funcs[f]?=some fn)
  (h : ∀ X : Ctx Tryz.prog Tryz.tab, SymC X fn.ntmps c ⟨enumA 0 args, []⟩ (Sy.Ends Tryz.tab fn.results post)) (hb : fn.body = some c := by exact rfl) (hn : (fn.name == "runtime.NumGoroutine") = false := by decide) (hargs : Nat.ble args.length fn.ntmps = true := by exact rfl) : FnP Tryz.prog f args post := FnP.intro Tryz.tabOK Tryz.wide_ hf hb hn hargs h
end Go.Proofs

set_option maxRecDepth 100000
namespace Go.Proofs
open Go.Sy Go.Lib
abbrev INTc (i:Int):List AV:=[I64 i]
abbrev STRc (l:List UInt8):List AV:=[.s l]
abbrev BOLc (b:Bool):List AV:=[B b]
def FU:Nat:=100000
structure Mth where
 tag:Int
 name:List UInt8
 fin:List UInt8
 fout:List UInt8
 oneWay:Bool

instance:Inhabited Mth:=⟨⟨0,[],[],[],false⟩⟩
def Mth.c (x:Mth):List AV:=[I64 x.tag,.s x.name,.s x.fin,.s x.fout,B x.oneWay]
structure Ty where
 kind:Int
 name:List UInt8
 of:List Ty

instance:Inhabited Ty:=⟨⟨0,[],[]⟩⟩
mutual
def Ty.cells:Ty→List AV
 | ⟨a0,a1,a2⟩=>[I64 a0,.s a1,.sl a2.length 3 (Ty.rows a2)]
def Ty.rows:List Ty→Nat→List AV
 | [],_=>[]
 | x::_,0=>Ty.cells x
 | _::xs,i+1=>Ty.rows xs i
end
def Ty.c (x:Ty):List AV:=[I64 x.kind,.s x.name,.sl x.of.length 3 (Ty.rows x.of)]
theorem Ty.rows_eq:∀ (l:List Ty) (i:Nat),i<l.length→Ty.rows l i=Ty.c (l.getD i default)
 | [],i,h=>absurd h (Nat.not_lt_zero _)
 | ⟨a0,a1,a2⟩::xs,0,_=>by simp only [Ty.rows,Ty.cells,Ty.c,List.getD_cons_zero]
 | x::xs,i+1,h=>by simp only [Ty.rows,List.getD_cons_succ];exact Ty.rows_eq xs i (by simpa using h)
structure Fld where
 tag:Int
 name:List UInt8
 ty:Ty

instance:Inhabited Fld:=⟨⟨0,[],default⟩⟩
def Fld.c (x:Fld):List AV:=[I64 x.tag,.s x.name,I64 x.ty.kind,.s x.ty.name,.sl x.ty.of.length 3 (Ty.rows x.ty.of)]
structure Dcl where
 kind:Int
 name:List UInt8
 fields:List Fld
 methods:List Mth
 fat:Int

instance:Inhabited Dcl:=⟨⟨0,[],[],[],0⟩⟩
def Dcl.c (x:Dcl):List AV:=[I64 x.kind,.s x.name,SL 5 Fld.c x.fields,SL 5 Mth.c x.methods,I64 x.fat]
structure Flt where
 err:Int
 fat:Int

instance:Inhabited Flt:=⟨⟨0,0⟩⟩
def Flt.c (x:Flt):List AV:=[I64 x.err,I64 x.fat]
end Go.Proofs

namespace Go.Proofs
open Go.Sy Go.Lib

end Go.Proofs

namespace Go.Proofs
open Go.Sy Go.Lib

def fstE (l:List Dcl):Nat→List (List UInt8×AV)
 | 0=>[]
 | k+1=>match lookE (l.getD k default).name (fstE l k) with
  | none=>fstE l k++[((l.getD k default).name,I64 (k:Nat))]
  | some _=>fstE l k

def fndL (nm:List UInt8):List Dcl→Option Nat
 | []=>none
 | d::l=>if d.name=nm then some 0 else (fndL nm l).map (·+1)

theorem lookE_app {α:Type} [DecidableEq α] (k:α):∀ (es es2:List (α×AV)),lookE k (es++es2)=(lookE k es).or (lookE k es2)
 | [],es2=>by simp [lookE]
 | (j,x)::es,es2=>by
  simp only [List.cons_append,lookE]
  split
  ·simp
  ·exact lookE_app k es es2

theorem fndL_app (nm:List UInt8):∀ (l l2:List Dcl),fndL nm (l++l2)=(fndL nm l).or ((fndL nm l2).map (·+l.length))
 | [],l2=>by simp [fndL]
 | d::l,l2=>by
  simp only [List.cons_append,fndL]
  split
  ·simp
  ·rw [fndL_app nm l l2]
   cases fndL nm l with
   | some i=>simp
   | none =>
    cases fndL nm l2 with
    | none=>simp
    | some j=>simp;omega

theorem fstE_look (l:List Dcl) (nm:List UInt8):∀ k,k≤l.length→lookE nm (fstE l k)=(fndL nm (l.take k)).map fun j=>I64 (j:Nat)
 | 0,_=>by simp [fstE,lookE,fndL]
 | k+1,hk=>by
  have ih:=fstE_look l nm k (by omega)
  have hkl:k<l.length:=by omega
  have hg:l.getD k default=l[k]:=by rw [List.getD_eq_getElem?_getD];simp [hkl]
  rw [List.take_succ_eq_append_getElem hkl,fndL_app]
  simp only [fstE,hg]
  have ih2:=fstE_look l l[k].name k (by omega)
  cases hx:lookE l[k].name (fstE l k) with
  | none =>
   simp only []
   rw [lookE_app,ih]
   cases fndL nm (l.take k) with
   | some j=>simp
   | none =>
    simp only [lookE,fndL]
    by_cases hn:l[k].name=nm
    ·simp [hn,Nat.min_eq_left (Nat.le_of_lt hkl)]
    ·simp [hn]
  | some y =>
   simp only []
   rw [ih]
   cases hf:fndL nm (l.take k) with
   | some j=>simp
   | none =>
    by_cases hn:l[k].name=nm
    ·rw [hx,hn,hf] at ih2;simp at ih2
    ·simp [fndL,hn]

def tabV (l:List Dcl):AV:=.cp [mapE S (fstE l l.length),.sl l.length 1 (fun i=>[I64 (l.getD i default).kind])]

noncomputable abbrev sK:Key Tryz.prog 9 (List UInt8):=strKey Tryz.underlying9

theorem sameBits_str (k:List UInt8):Instr.sameBits 10000 (S k) (S k)=true:=by
 show Instr.sameBits (9999+1) (.string ⟨k.toArray⟩) (.string ⟨k.toArray⟩)=true
 simp only [Instr.sameBits]
 show (k.toArray == k.toArray)=true
 simp

abbrev kinds (l:List Dcl) (k:Nat):List AV:=(l.take k).map fun d=>I64 d.kind
abbrev tbA (bT mb:Nat) (h:Value):Abs:=boxA bT 171 [.v (.map (some mb)),.v h]

theorem Of_w (l:List Dcl) (hl:l.length≤1000):FnP Tryz.prog 60 [SL 5 Dcl.c l] (·=tabV l):=by
 refine fnP Tryz.func60 fun X=>?_
 repeat (first|refine sc rfl ?_|refine so rfl ?_)
 refine O_makeMap S rfl (fun mb=>?_)
 repeat (first|refine sc rfl ?_|refine so rfl ?_)
 refine C_absb 3 rfl rfl rfl (fun bT=>?_)
 refine C_le _ (Le.addAbs (slO (.slice none 0 0) 3 1 (kinds l 0)) rfl (fun _ _=>⟨0,rfl,.inl ⟨rfl,rfl⟩⟩)) ?_
 refine C_loop (fun q:Nat×Value=>⟨[(0,SL 5 Dcl.c l),(3,PT bT 0),(11,SL 5 Dcl.c l),(12,I64 (l.length:Nat)),(13,I64 (q.1:Nat))],[.abs (tbA bT mb q.2),.abs (slO q.2 3 1 (kinds l q.1)),.abs (mapA S (some mb) (fstE l q.1))]⟩)
  (fun q=>q.1≤l.length) (fun q=>l.length-q.1) (0,.slice none 0 0) (Nat.zero_le _) (Le.perm [] ⟨rfl,rfl,rfl,rfl,rfl,trivial⟩ (by exact pickA_perm (is:=[1,0,0]) (As:=[_,_,_]) rfl)) ?_
 rintro ⟨i,h⟩ hi
 simp only [] at hi
 repeat (first|refine sc rfl ?_|refine so rfl ?_)
 refine C_if rfl (fun h1=>?_) (fun h1=>?_)<;>simp only [decide_eq_true_eq,decide_eq_false_iff_not] at h1
 ·have hil:i<l.length:=by omega
  have hlk:=fstE_look l (l.getD i default).name i hi
  repeat (first|refine sc rfl ?_|refine so rfl ?_)
  refine ⟨by simp only [];omega,?_⟩
  repeat (first|refine sc rfl ?_|refine so rfl ?_)
  have hgl:l.getD i default=l[i]:=by rw [List.getD_eq_getElem?_getD];simp [hil]
  have hkk:kinds l i++[I64 (l.getD i default).kind]=kinds l (i+1):=by
   rw [kinds,kinds,List.take_succ_eq_append_getElem hil,List.map_append,hgl];rfl
  have hkl:(kinds l i).length=i:=by rw [kinds,List.length_map,List.length_take];omega
  refine C_drawD rfl (by kernel_rfl) ?_
  repeat refine sd rfl ?_
  refine D_X (.v (.map (some mb))) (X_loadP 1 (reads_box 0) rfl rfl rfl rfl rfl rfl) ?_
  repeat refine sd rfl ?_
  refine D_X (lookAV true (lookE (l.getD i default).name (fstE l i)) (I64 0)) (X_lookS 3 sK Tryz.underlying169 rfl rfl (fun e=>by simp only [Rep]) rfl (fun e v h=>kS e h) rfl rfl rfl rfl rfl) ?_
  have hstep:∀ y,lookE (l.getD i default).name (fstE l i)=some y→∃ j:Nat,y=I64 (j:Nat):=fun y hy=>by
   rw [hlk] at hy
   obtain ⟨j,_,rfl⟩:=Option.map_eq_some_iff.1 hy
   exact ⟨j,rfl⟩
  cases hx:lookE (l.getD i default).name (fstE l i) with
  | none =>
   have hf:fstE l (i+1)=updE (l.getD i default).name (I64 (i:Nat)) (fstE l i):=by
    rw [updE_new hx];simp only [fstE,hx]
   simp only [lookAV,cond_true,Option.isSome_none,Option.getD_none]
   repeat refine sd rfl ?_
   repeat (first|refine sc rfl ?_|refine so rfl ?_)
   refine C_true rfl rfl ?_
   refine C_drawU 20 7 rfl (by kernel_rfl) (by kernel_rfl) (by kernel_rfl) ?_
   repeat refine sd rfl ?_
   refine D_X (.v (.map (some mb))) (X_loadP 1 (reads_box 0) rfl rfl rfl rfl rfl rfl) ?_
   repeat refine sd rfl ?_
   refine O_Xn (X_updS 3 sK Tryz.underlying169 sameBits_str (fun e v h=>kS e h) rfl rfl rfl rfl rfl rfl) ?_
   repeat refine so rfl ?_
   refine C_le _ (Le.retell 0 (A':=mapA S (some mb) (fstE l (i+1))) rfl rfl (fun G w hok=>by rw [hf];exact hok)) ?_
   refine C_le ⟨[(0,SL 5 Dcl.c l),(3,PT bT 0),(5,.bp 5 0),(11,SL 5 Dcl.c l),(12,I64 (l.length:Nat)),(13,I64 (i:Nat))],[.box 5 53 (Dcl.c (l.getD i default)),.abs (tbA bT mb h),.abs (slO h 3 1 (kinds l i)),.abs (mapA S (some mb) (fstE l (i+1)))]⟩ (Le.pick [1,1,1,0] ⟨rfl,rfl,rfl,rfl,rfl,rfl,trivial⟩ rfl) ?_
   refine C_drawV 20 8 0 37 rfl (by kernel_rfl) (by kernel_rfl) (by kernel_rfl) (by kernel_rfl) ?_
   repeat refine sd rfl ?_
   refine D_X (.v h) (X_loadP 1 (reads_box 1) rfl rfl rfl rfl rfl rfl) ?_
   repeat (first|refine sd rfl ?_|refine sds rfl ?_)
   refine ⟨?_,?_⟩
   all_goals
    refine O_appendO 2 (x:=I64 (l.getD i default).kind) rfl rfl rfl rfl rfl rfl rfl (by rw [hkl];omega) (by rw [hkl];simp [maxLen];omega) (fun v' hv'=>?_)
    obtain ⟨g9,o9,m9,cc9,rfl⟩:=hv'
    rw [hkk]
    repeat refine so rfl ?_
    refine O_Xn (X_storeP 2 (writes_box (by show 1<2;decide)) rfl rfl rfl rfl rfl rfl rfl) ?_
    repeat (first|refine sc rfl ?_|refine so rfl ?_)
    rw [w64 (x:=(i:Int)+1) (by omega) (by omega)]
    refine ⟨(i+1,HO g9 o9 m9 cc9),by simp only [];omega,by simp only [];omega,Le.pick [0,0,1] ⟨rfl,rfl,rfl,rfl,rfl,trivial⟩ rfl⟩
  | some y =>
   obtain ⟨j,rfl⟩:=hstep y hx
   have hf:fstE l (i+1)=fstE l i:=by simp only [fstE,hx]
   simp only [lookAV,cond_true,Option.isSome_some,Option.getD_some]
   repeat refine sd rfl ?_
   repeat (first|refine sc rfl ?_|refine so rfl ?_)
   refine C_false rfl rfl ?_
   repeat refine sc rfl ?_
   refine C_le _ (Le.retell 3 (A':=mapA S (some mb) (fstE l (i+1))) rfl rfl (fun G w hok=>by rw [hf];exact hok)) ?_
   refine C_le ⟨[(0,SL 5 Dcl.c l),(3,PT bT 0),(5,.bp 5 0),(11,SL 5 Dcl.c l),(12,I64 (l.length:Nat)),(13,I64 (i:Nat))],[.box 5 53 (Dcl.c (l.getD i default)),.abs (tbA bT mb h),.abs (slO h 3 1 (kinds l i)),.abs (mapA S (some mb) (fstE l (i+1)))]⟩ (Le.pick [1,1,1,0] ⟨rfl,rfl,rfl,rfl,rfl,rfl,trivial⟩ rfl) ?_
   refine C_drawV 20 8 0 37 rfl (by kernel_rfl) (by kernel_rfl) (by kernel_rfl) (by kernel_rfl) ?_
   repeat refine sd rfl ?_
   refine D_X (.v h) (X_loadP 1 (reads_box 1) rfl rfl rfl rfl rfl rfl) ?_
   repeat (first|refine sd rfl ?_|refine sds rfl ?_)
   refine ⟨?_,?_⟩
   all_goals
    refine O_appendO 2 (x:=I64 (l.getD i default).kind) rfl rfl rfl rfl rfl rfl rfl (by rw [hkl];omega) (by rw [hkl];simp [maxLen];omega) (fun v' hv'=>?_)
    obtain ⟨g9,o9,m9,cc9,rfl⟩:=hv'
    rw [hkk]
    repeat refine so rfl ?_
    refine O_Xn (X_storeP 2 (writes_box (by show 1<2;decide)) rfl rfl rfl rfl rfl rfl rfl) ?_
    repeat (first|refine sc rfl ?_|refine so rfl ?_)
    rw [w64 (x:=(i:Int)+1) (by omega) (by omega)]
    refine ⟨(i+1,HO g9 o9 m9 cc9),by simp only [];omega,by simp only [];omega,Le.pick [0,0,1] ⟨rfl,rfl,rfl,rfl,rfl,trivial⟩ rfl⟩
 ·obtain rfl:i=l.length:=by omega
  have hkl:(kinds l l.length).length=l.length:=by rw [kinds,List.length_map,List.length_take];omega
  refine C_le _ (Le.frMap 2 rfl) ?_
  refine C_le _ (Le.cellA 1 0 0 rfl rfl) ?_
  refine C_le _ (Le.frSlO 1 (m:=l.length) (fun i=>[I64 (l.getD i default).kind]) rfl (by rw [hkl];omega) (by decide) (fun i hi=>?_)) ?_
  ·have:kinds l l.length=l.map fun d=>I64 d.kind:=by rw [kinds,List.take_length]
   rw [this,Nat.mul_one,List.drop_eq_getElem_cons (by simpa using hi)]
   simp [List.getD_eq_getElem?_getD,hi]
  refine C_le _ (Le.cellA 1 0 1 rfl rfl) ?_
  refine C_le _ (Le.frBox 0 rfl) ?_
  refine C_le _ (Le.slotA 0 3 rfl rfl) ?_
  repeat (first|refine sc rfl ?_|refine so rfl ?_)
  exact ⟨_,rfl,rfl,rfl⟩

theorem fndL_lt {nm:List UInt8}:∀ {l:List Dcl} {j:Nat},fndL nm l=some j→j<l.length
 | [],j,h=>by simp [fndL] at h
 | d::l,j,h=>by
  simp only [fndL] at h
  split at h
  ·cases h;simp
  ·obtain ⟨i,hi,rfl⟩:=Option.map_eq_some_iff.1 h
   have:=fndL_lt hi
   simp;omega

theorem fstE_all (l:List Dcl) (nm:List UInt8):lookE nm (fstE l l.length)=(fndL nm l).map fun j=>I64 (j:Nat):=by
 rw [fstE_look l nm _ (Nat.le_refl _),List.take_length]

def fndI (nm:List UInt8) (l:List Dcl):Int:=((fndL nm l).getD 0:Nat)
def kindL (l:List Dcl) (nm:List UInt8):Int:=match fndL nm l with
 | none=>0
 | some j=>(l.getD j default).kind

theorem Find_c (l:List Dcl) (nm:List UInt8):FnP Tryz.prog 75 [tabV l,.s nm] (·=.tup [I64 (fndI nm l),B (fndL nm l).isSome]):=by
 refine fnP Tryz.func75 fun X=>?_
 unfold tabV
 repeat (first|refine sc rfl ?_|refine so rfl ?_)
 refine O_Xd (X_cpnil Tryz.underlying102 rfl rfl rfl) ?_
 repeat refine so rfl ?_
 refine C_false rfl rfl ?_
 repeat (first|refine sc rfl ?_|refine so rfl ?_)
 refine O_Xd (X_lookIS (z:=I64 0) sK Tryz.underlying169 rfl rfl (fun e=>by simp only [Rep]) rfl (fun e v h=>kS e h) rfl rfl rfl rfl) ?_
 rw [fstE_all]
 have e1:∀ o:Option Nat,lookAV true (o.map fun j=>I64 (j:Nat)) (I64 0)=.tup [I64 (o.getD 0:Nat),B o.isSome]:=fun o=>by cases o<;>rfl
 rw [e1]
 repeat (first|refine sc rfl ?_|refine so rfl ?_)
 exact ⟨_,rfl,rfl,rfl⟩

theorem Kind_c (l:List Dcl) (nm:List UInt8):FnP Tryz.prog 36 [tabV l,.s nm] (·=I64 (kindL l nm)):=by
 refine fnP Tryz.func36 fun X=>?_
 have hF:=Find_c l nm
 unfold tabV at hF ⊢
 repeat (first|refine sc rfl ?_|refine so rfl ?_)
 refine O_cP hF fun r hr=>?_
 subst hr
 repeat (first|refine sc rfl ?_|refine so rfl ?_)
 unfold kindL
 cases hf:fndL nm l with
 | none =>
  refine C_true rfl rfl ?_
  repeat (first|refine sc rfl ?_|refine so rfl ?_)
  exact ⟨_,rfl,rfl,rfl⟩
 | some j =>
  have hj:=fndL_lt hf
  have hi:fndI nm l=(j:Nat):=by simp [fndI,hf]
  rw [hi]
  refine C_false rfl rfl ?_
  repeat (first|refine sc rfl ?_|refine so rfl ?_)
  refine ⟨by omega,?_⟩
  repeat (first|refine sc rfl ?_|refine so rfl ?_)
  exact ⟨_,rfl,rfl,rfl⟩
end Go.Proofs

namespace Go.Proofs
open Go.Sy Go.Lib

noncomputable def Arity_F (k:Int):Option (Int) :=
 Option.bind (α:=Bool) (cond (k == 1) (some (k == 1)) (cond (k == 2) (some (k == 2)) (cond (k == 3) (some (k == 3)) (cond (k == 4) (some (k == 4)) (cond (k == 5) (some (k == 5)) (some (k == 6))))))) (fun m1=>cond m1 (some 0) (Option.bind (α:=Bool) (cond (k == 7) (some (k == 7)) (some (k == 9))) (fun m8=>cond m8 (some 1) (cond (k == 8) (some 2) (some (-1))))))
theorem Arity_w (k:Int) (r:Int) (h:Arity_F k=some r):FnP Tryz.prog 154 [I64 k] (·=I64 r):=by
 unfold Arity_F at h
 refine fnP Tryz.func154 fun X=>?_
 iterate 2 refine sc rfl ?_
 refine so rfl ?_
 refine so rfl ?_
 iterate 3 refine sc rfl ?_
 refine so rfl ?_
 refine so rfl ?_
 iterate 4 refine sc rfl ?_
 iterate 2 refine so rfl ?_
 refine so rfl ?_
 obtain ⟨m1,hm1,h⟩:=bT h
 refine C_join ⟨[(3,I64 k),(4,B m1)],[]⟩ ?_ (fun s hm1s=>C_le _ hm1s ?_)
 ·refine C_if rfl (fun hb2=>?_) (fun hb2=>?_)
  ·replace hm1:=cT hb2 hm1
   refine sc rfl ?_
   obtain rfl:=osi hm1
   exact Le.sub [] ⟨rfl,rfl,trivial⟩ rfl
  ·replace hm1:=cF hb2 hm1
   iterate 2 refine sc rfl ?_
   iterate 2 refine so rfl ?_
   refine so rfl ?_
   refine C_if rfl (fun hb3=>?_) (fun hb3=>?_)
   ·replace hm1:=cT hb3 hm1
    refine sc rfl ?_
    obtain rfl:=osi hm1
    exact Le.sub [] ⟨rfl,rfl,trivial⟩ rfl
   ·replace hm1:=cF hb3 hm1
    iterate 2 refine sc rfl ?_
    iterate 2 refine so rfl ?_
    refine so rfl ?_
    refine C_if rfl (fun hb4=>?_) (fun hb4=>?_)
    ·replace hm1:=cT hb4 hm1
     refine sc rfl ?_
     obtain rfl:=osi hm1
     exact Le.sub [] ⟨rfl,rfl,trivial⟩ rfl
    ·replace hm1:=cF hb4 hm1
     iterate 2 refine sc rfl ?_
     iterate 2 refine so rfl ?_
     refine so rfl ?_
     refine C_if rfl (fun hb5=>?_) (fun hb5=>?_)
     ·replace hm1:=cT hb5 hm1
      refine sc rfl ?_
      obtain rfl:=osi hm1
      exact Le.sub [] ⟨rfl,rfl,trivial⟩ rfl
     ·replace hm1:=cF hb5 hm1
      iterate 2 refine sc rfl ?_
      iterate 2 refine so rfl ?_
      refine so rfl ?_
      refine C_if rfl (fun hb6=>?_) (fun hb6=>?_)
      ·replace hm1:=cT hb6 hm1
       refine sc rfl ?_
       obtain rfl:=osi hm1
       exact Le.sub [] ⟨rfl,rfl,trivial⟩ rfl
      ·replace hm1:=cF hb6 hm1
       refine sc rfl ?_
       iterate 2 refine so rfl ?_
       refine so rfl ?_
       obtain rfl:=osi hm1
       exact Le.sub [] ⟨rfl,rfl,trivial⟩ rfl
 refine C_if rfl (fun hb7=>?_) (fun hb7=>?_)
 ·replace h:=cT hb7 h
  iterate 2 refine sc rfl ?_
  refine so rfl ?_
  refine so rfl ?_
  refine sc rfl ?_
  obtain rfl:=osi h
  exact ⟨_,rfl,rfl,rfl⟩
 ·replace h:=cF hb7 h
  iterate 3 refine sc rfl ?_
  iterate 2 refine so rfl ?_
  refine so rfl ?_
  obtain ⟨m8,hm8,h⟩:=bT h
  refine C_join ⟨[(3,I64 k),(11,B m8)],[]⟩ ?_ (fun s hm8s=>C_le _ hm8s ?_)
  ·refine C_if rfl (fun hb9=>?_) (fun hb9=>?_)
   ·replace hm8:=cT hb9 hm8
    refine sc rfl ?_
    obtain rfl:=osi hm8
    exact Le.sub [] ⟨rfl,rfl,trivial⟩ rfl
   ·replace hm8:=cF hb9 hm8
    refine sc rfl ?_
    iterate 2 refine so rfl ?_
    refine so rfl ?_
    obtain rfl:=osi hm8
    exact Le.sub [] ⟨rfl,rfl,trivial⟩ rfl
  refine C_if rfl (fun hb10=>?_) (fun hb10=>?_)
  ·replace h:=cT hb10 h
   iterate 2 refine sc rfl ?_
   refine so rfl ?_
   refine so rfl ?_
   refine sc rfl ?_
   obtain rfl:=osi h
   exact ⟨_,rfl,rfl,rfl⟩
  ·replace h:=cF hb10 h
   iterate 2 refine sc rfl ?_
   iterate 2 refine so rfl ?_
   refine so rfl ?_
   refine C_if rfl (fun hb11=>?_) (fun hb11=>?_)
   ·replace h:=cT hb11 h
    iterate 2 refine sc rfl ?_
    refine so rfl ?_
    refine so rfl ?_
    refine sc rfl ?_
    obtain rfl:=osi h
    exact ⟨_,rfl,rfl,rfl⟩
   ·replace h:=cF hb11 h
    iterate 3 refine sc rfl ?_
    refine so rfl ?_
    refine so rfl ?_
    refine sc rfl ?_
    obtain rfl:=osi h
    exact ⟨_,rfl,rfl,rfl⟩
end Go.Proofs

namespace Go.Proofs
open Go.Sy Go.Lib

noncomputable def arityL (k:Int):Int:=(Arity_F k).getD 0
theorem Arity_c (k:Int):FnP Tryz.prog 154 [I64 k] (·=I64 (arityL k)):=by
 refine Arity_w k _ ?_
 unfold arityL
 have:(Arity_F k).isSome=true:=by
  unfold Arity_F
  cases hb:k == 1<;>cases hb2:k == 2<;>cases hb3:k == 3<;>cases hb4:k == 4<;>cases hb5:k == 5<;>cases hb6:k == 6<;>cases hb7:k == 7<;>cases hb8:k == 8<;>cases hb9:k == 9<;>rfl
 obtain ⟨r,hr⟩:=Option.isSome_iff_exists.1 this
 rw [hr];rfl

def chkV (l:List Dcl):AV:=.cp [SL 5 Dcl.c l,tabV l]

def KeyOK (l:List Dcl) (t:Ty):Prop:=t.kind=1∨t.kind=2∨t.kind=3∨t.kind=4∨(t.kind=6∧kindL l t.name=3)

theorem keyed_c (l:List Dcl) (t:Ty):FnP Tryz.prog 155 [chkV l,.agg (Ty.c t)] (fun r=>∃ b,r=B b∧(b=true↔KeyOK l t)):=by
 refine fnP Tryz.func155 fun X=>?_
 have hK:=Kind_c l t.name
 unfold chkV
 repeat (first|refine sc rfl ?_|refine so rfl ?_)
 refine C_if rfl (fun h1=>?_) (fun h1=>?_)<;>simp only [pL] at h1
 ·repeat refine sc rfl ?_
  refine C_true rfl (by simp [h1]) ?_
  repeat (first|refine sc rfl ?_|refine so rfl ?_)
  exact ⟨_,rfl,rfl,true,rfl,⟨fun _=>.inl h1,fun _=>rfl⟩⟩
 repeat (first|refine sc rfl ?_|refine so rfl ?_)
 refine C_if rfl (fun h2=>?_) (fun h2=>?_)<;>simp only [pL] at h2
 ·repeat refine sc rfl ?_
  refine C_true rfl (by simp [h2]) ?_
  repeat (first|refine sc rfl ?_|refine so rfl ?_)
  exact ⟨_,rfl,rfl,true,rfl,⟨fun _=>.inr (.inl h2),fun _=>rfl⟩⟩
 repeat (first|refine sc rfl ?_|refine so rfl ?_)
 refine C_if rfl (fun h3=>?_) (fun h3=>?_)<;>simp only [pL] at h3
 ·repeat refine sc rfl ?_
  refine C_true rfl (by simp [h3]) ?_
  repeat (first|refine sc rfl ?_|refine so rfl ?_)
  exact ⟨_,rfl,rfl,true,rfl,⟨fun _=>.inr (.inr (.inl h3)),fun _=>rfl⟩⟩
 repeat (first|refine sc rfl ?_|refine so rfl ?_)
 refine C_if rfl (fun h4=>?_) (fun h4=>?_)<;>simp only [pL] at h4
 ·repeat (first|refine sc rfl ?_|refine so rfl ?_)
  exact ⟨_,rfl,rfl,true,rfl,⟨fun _=>.inr (.inr (.inr (.inl h4))),fun _=>rfl⟩⟩
 repeat (first|refine sc rfl ?_|refine so rfl ?_)
 refine C_if rfl (fun h6=>?_) (fun h6=>?_)<;>simp only [pL] at h6
 ·repeat refine sc rfl ?_
  refine C_drawT 20 8 rfl (by kernel_rfl) (by kernel_rfl) ?_
  repeat refine sd rfl ?_
  refine D_call hK rfl rfl rfl rfl ?_
  repeat refine sd rfl ?_
  repeat (first|refine sc rfl ?_|refine so rfl ?_)
  exact ⟨_,rfl,rfl,_,rfl,⟨fun h=>.inr (.inr (.inr (.inr ⟨h6,by simpa using h⟩))),fun h=>by rcases h with h|h|h|h|h;exact absurd h h1;exact absurd h h2;exact absurd h h3;exact absurd h h4;simpa using h.2⟩⟩
 ·repeat (first|refine sc rfl ?_|refine so rfl ?_)
  exact ⟨_,rfl,rfl,false,rfl,⟨fun h=>(by cases h),fun h=>by rcases h with h|h|h|h|h;exact absurd h h1;exact absurd h h2;exact absurd h h3;exact absurd h h4;exact absurd h.1 h6⟩⟩

inductive TyOK (l:List Dcl):Bool→Ty→Prop
 | mk {inner:Bool} {t:Ty}:(t.of.length:Int)=arityL t.kind→(t.kind≠6→t.name=[])→(t.kind=6→kindL l t.name=1∨kindL l t.name=2∨kindL l t.name=3)→(t.kind=9→inner=false)→(t.kind=8→KeyOK l (t.of.getD 0 default)) →
   (∀ i,i<t.of.length→TyOK l true (t.of.getD i default))→TyOK l inner t

theorem of_lt {t:Ty} {i:Nat} (h:i<t.of.length):SizeOf.sizeOf (t.of.getD i default)<SizeOf.sizeOf t:=by
 have h1:t.of.getD i default∈t.of:=by
  rw [List.getD_eq_getElem?_getD,List.getElem?_eq_getElem h];exact List.getElem_mem h
 have h2:=List.sizeOf_lt_of_mem h1
 have h3:SizeOf.sizeOf t.of<SizeOf.sizeOf t:=by cases t;simp;omega
 omega

theorem arity_le (k:Int):arityL k≤2:=by
 unfold arityL Arity_F
 cases hb:k == 1<;>cases hb2:k == 2<;>cases hb3:k == 3<;>cases hb4:k == 4<;>cases hb5:k == 5<;>cases hb6:k == 6<;>cases hb7:k == 7<;>cases hb8:k == 8<;>cases hb9:k == 9<;>simp
theorem arity_8:arityL 8=2:=rfl

theorem typ_c (l:List Dcl):∀ (n:Nat) (t:Ty) (inner:Bool),SizeOf.sizeOf t≤n→FnP Tryz.prog 133 [chkV l,.agg (Ty.c t),B inner] (fun r=>∃ e:Int,r=I64 e∧(e=0↔TyOK l inner t))
 | 0,t,inner,h=>by cases t;simp at h
 | n+1,t,inner,hn=>by
  refine fnP Tryz.func133 fun X=>?_
  have hK:=Kind_c l t.name
  have hF:=Find_c l t.name
  have hA:=Arity_c t.kind
  have hY:=keyed_c l (t.of.getD 0 default)
  have hrec:∀ i,i<t.of.length→FnP Tryz.prog 133 [chkV l,.agg (Ty.c (t.of.getD i default)),B true] (fun r=>∃ e:Int,r=I64 e∧(e=0↔TyOK l true (t.of.getD i default))):=fun i hi=>typ_c l n _ _ (by have:=of_lt hi;omega)
  have hck:chkV l=.cp [SL 5 Dcl.c l,tabV l]:=rfl
  rw [hck] at hY hrec ⊢
  have h2:=arity_le t.kind
  by_cases hlen:(t.of.length:Int)=arityL t.kind
  rotate_left
  ·repeat (first|refine sc rfl ?_|refine so rfl ?_)
   refine C_drawD rfl (by kernel_rfl) ?_
   repeat refine sd rfl ?_
   refine D_call hA rfl rfl rfl rfl ?_
   repeat refine sd rfl ?_
   refine D_case 7 rfl (fun g1=>?_) (fun g1=>?_)<;>simp only [pL] at g1
   ·repeat refine sd rfl ?_
    repeat refine sc rfl ?_
    refine C_true rfl rfl ?_
    repeat (first|refine sc rfl ?_|refine so rfl ?_)
    exact ⟨_,rfl,rfl,8,rfl,⟨fun h=>absurd h (by decide),fun h=>by obtain ⟨q1,q2,q3,q4,q5,q6⟩:=h;exact absurd q1 hlen⟩⟩
   ·exact absurd g1 hlen
  by_cases hk:t.kind=6
  ·repeat (first|refine sc rfl ?_|refine so rfl ?_)
   refine C_drawD rfl (by kernel_rfl) ?_
   repeat refine sd rfl ?_
   refine D_call hA rfl rfl rfl rfl ?_
   repeat refine sd rfl ?_
   refine D_case 7 rfl (fun g1=>?_) (fun g1=>?_)<;>simp only [pL] at g1
   ·exact absurd hlen g1
   repeat refine sd rfl ?_
   refine D_case 11 rfl (fun g2=>?_) (fun g2=>?_)<;>simp only [pL] at g2
   ·exact absurd hk g2
   repeat refine sd rfl ?_
   repeat refine sc rfl ?_
   refine C_false rfl rfl ?_
   repeat (first|refine sc rfl ?_|refine so rfl ?_)
   refine C_true rfl (by simp [hk]) ?_
   repeat refine sc rfl ?_
   refine C_drawD rfl (by kernel_rfl) ?_
   repeat refine sd rfl ?_
   refine D_call hK rfl rfl rfl rfl ?_
   repeat refine sd rfl ?_
   repeat (first|refine sc rfl ?_|refine so rfl ?_)
   refine C_if rfl (fun k1=>?_) (fun k1=>?_)<;>simp only [pL] at k1
   ·repeat refine sc rfl ?_
    refine C_true rfl (by simp [k1]) ?_
    repeat (first|refine sc rfl ?_|refine so rfl ?_)
    exact ⟨_,rfl,rfl,0,rfl,⟨fun _=>.mk hlen (fun h=>absurd hk h) (fun _=>.inl k1) (fun h=>by omega) (fun h=>by omega) (fun i hi=>by
     have:arityL t.kind=0:=by rw [hk];rfl
     omega),fun _=>rfl⟩⟩
   repeat (first|refine sc rfl ?_|refine so rfl ?_)
   refine C_if rfl (fun k2=>?_) (fun k2=>?_)<;>simp only [pL] at k2
   ·repeat refine sc rfl ?_
    refine C_true rfl (by simp [k2]) ?_
    repeat (first|refine sc rfl ?_|refine so rfl ?_)
    exact ⟨_,rfl,rfl,0,rfl,⟨fun _=>.mk hlen (fun h=>absurd hk h) (fun _=>.inr (.inl k2)) (fun h=>by omega) (fun h=>by omega) (fun i hi=>by
     have:arityL t.kind=0:=by rw [hk];rfl
     omega),fun _=>rfl⟩⟩
   repeat (first|refine sc rfl ?_|refine so rfl ?_)
   refine C_if rfl (fun k3=>?_) (fun k3=>?_)<;>simp only [pL] at k3
   ·repeat (first|refine sc rfl ?_|refine so rfl ?_)
    exact ⟨_,rfl,rfl,0,rfl,⟨fun _=>.mk hlen (fun h=>absurd hk h) (fun _=>.inr (.inr k3)) (fun h=>by omega) (fun h=>by omega) (fun i hi=>by
     have:arityL t.kind=0:=by rw [hk];rfl
     omega),fun _=>rfl⟩⟩
   repeat refine sc rfl ?_
   refine C_drawD rfl (by kernel_rfl) ?_
   repeat refine sd rfl ?_
   refine D_call hF rfl rfl rfl rfl ?_
   repeat refine sd rfl ?_
   repeat (first|refine sc rfl ?_|refine so rfl ?_)
   refine C_if rfl (fun k4=>?_) (fun k4=>?_)
   ·repeat (first|refine sc rfl ?_|refine so rfl ?_)
    exact ⟨_,rfl,rfl,6,rfl,⟨fun h=>absurd h (by decide),fun h=>by obtain ⟨q1,q2,q3,q4,q5,q6⟩:=h;rcases q3 hk with h|h|h;exact absurd h k1;exact absurd h k2;exact absurd h k3⟩⟩
   ·repeat (first|refine sc rfl ?_|refine so rfl ?_)
    exact ⟨_,rfl,rfl,8,rfl,⟨fun h=>absurd h (by decide),fun h=>by obtain ⟨q1,q2,q3,q4,q5,q6⟩:=h;rcases q3 hk with h|h|h;exact absurd h k1;exact absurd h k2;exact absurd h k3⟩⟩
  by_cases hnm:t.name=[]
  rotate_left
  ·repeat (first|refine sc rfl ?_|refine so rfl ?_)
   refine C_drawD rfl (by kernel_rfl) ?_
   repeat refine sd rfl ?_
   refine D_call hA rfl rfl rfl rfl ?_
   repeat refine sd rfl ?_
   refine D_case 7 rfl (fun g1=>?_) (fun g1=>?_)<;>simp only [pL] at g1
   ·exact absurd hlen g1
   repeat refine sd rfl ?_
   refine D_case 11 rfl (fun g2=>?_) (fun g2=>?_)<;>simp only [pL] at g2
   rotate_left
   ·exact absurd g2 hk
   repeat refine sd rfl ?_
   repeat refine sc rfl ?_
   refine C_true rfl (by simp [hnm]) ?_
   repeat (first|refine sc rfl ?_|refine so rfl ?_)
   exact ⟨_,rfl,rfl,8,rfl,⟨fun h=>absurd h (by decide),fun h=>by obtain ⟨q1,q2,q3,q4,q5,q6⟩:=h;exact absurd (q2 hk) hnm⟩⟩
  repeat (first|refine sc rfl ?_|refine so rfl ?_)
  refine C_drawD rfl (by kernel_rfl) ?_
  repeat refine sd rfl ?_
  refine D_call hA rfl rfl rfl rfl ?_
  repeat refine sd rfl ?_
  refine D_case 7 rfl (fun g1=>?_) (fun g1=>?_)<;>simp only [pL] at g1
  ·exact absurd hlen g1
  repeat refine sd rfl ?_
  refine D_case 11 rfl (fun g2=>?_) (fun g2=>?_)<;>simp only [pL] at g2
  rotate_left
  ·exact absurd g2 hk
  repeat refine sd rfl ?_
  repeat refine sc rfl ?_
  refine C_false rfl (by simp [hnm]) ?_
  repeat (first|refine sc rfl ?_|refine so rfl ?_)
  refine C_false rfl (by simp [hk]) ?_
  repeat (first|refine sc rfl ?_|refine so rfl ?_)
  refine C_joinE (fun _:Unit=>⟨[(0,.cp [SL 5 Dcl.c l,tabV l]),(4,.bp 4 0)],[.box 4 58 (Ty.c t)]⟩) (fun _=>(t.kind=9→inner=false)∧(t.kind=8→KeyOK l (t.of.getD 0 default))) ?_ (fun _ s hI hle=>C_le _ hle ?_)
  ·refine C_if rfl (fun k9=>?_) (fun k9=>?_)<;>simp only [pL] at k9
   ·repeat (first|refine sc rfl ?_|refine so rfl ?_)
    refine C_if rfl (fun k1=>?_) (fun k1=>?_)
    ·repeat (first|refine sc rfl ?_|refine so rfl ?_)
     exact ⟨_,rfl,rfl,8,rfl,⟨fun h=>absurd h (by decide),fun h=>by obtain ⟨q1,q2,q3,q4,q5,q6⟩:=h;rw [q4 k9] at k1;cases k1⟩⟩
    ·repeat refine sc rfl ?_
     exact ⟨(),⟨fun _=>k1,fun h=>by omega⟩,Le.sub [4] ⟨rfl,rfl,trivial⟩ rfl⟩
   ·repeat (first|refine sc rfl ?_|refine so rfl ?_)
    refine C_if rfl (fun k8=>?_) (fun k8=>?_)<;>simp only [pL] at k8
    ·have h8:t.of.length=2:=by rw [k8,arity_8] at hlen;omega
     iterate 2 refine sc rfl ?_
     refine so rfl ?_
     refine so rfl ?_
     refine so rfl ?_
     refine O_le _ (Le.one 63 (SL 3 Ty.c t.of) rfl (.row (Ty.rows_eq _))) ?_
     repeat refine so rfl ?_
     refine ⟨by omega,?_⟩
     repeat refine so rfl ?_
     refine O_cP hY fun r hr=>?_
     obtain ⟨b,rfl,hb⟩:=hr
     repeat refine so rfl ?_
     cases b with
     | true =>
      refine C_false rfl rfl ?_
      repeat refine sc rfl ?_
      exact ⟨(),⟨fun h=>absurd h k9,fun _=>hb.1 rfl⟩,Le.sub [4] ⟨rfl,rfl,trivial⟩ rfl⟩
     | false =>
      refine C_true rfl rfl ?_
      repeat (first|refine sc rfl ?_|refine so rfl ?_)
      exact ⟨_,rfl,rfl,8,rfl,⟨fun h=>absurd h (by decide),fun h=>by obtain ⟨q1,q2,q3,q4,q5,q6⟩:=h;have:=hb.2 (q5 k8);cases this⟩⟩
    ·repeat refine sc rfl ?_
     exact ⟨(),⟨fun h=>absurd h k9,fun h=>absurd h k8⟩,Le.sub [4] ⟨rfl,rfl,trivial⟩ rfl⟩
  repeat (first|refine sc rfl ?_|refine so rfl ?_)
  refine C_loop (fun i:Nat=>⟨[(0,.cp [SL 5 Dcl.c l,tabV l]),(69,SL 3 Ty.c t.of),(70,I64 (t.of.length:Nat)),(71,I64 (i:Nat))],[]⟩) (fun i=>i≤t.of.length∧∀ j,j<i→TyOK l true (t.of.getD j default)) (fun i=>t.of.length-i) 0 ⟨Nat.zero_le _,fun j hj=>absurd hj (Nat.not_lt_zero _)⟩ ((Le.one 69 (SL 3 Ty.c t.of) rfl (.row (Ty.rows_eq _))).trans (Le.sub [] ⟨rfl,rfl,rfl,rfl,trivial⟩ rfl)) ?_
  rintro i ⟨hi,hall⟩
  repeat (first|refine sc rfl ?_|refine so rfl ?_)
  refine C_if rfl (fun m1=>?_) (fun m1=>?_)<;>simp only [pL] at m1
  ·have hil:i<t.of.length:=by omega
   repeat (first|refine sc rfl ?_|refine so rfl ?_)
   refine ⟨by omega,?_⟩
   repeat (first|refine sc rfl ?_|refine so rfl ?_)
   refine O_cP (hrec i hil) fun r hr=>?_
   obtain ⟨e,rfl,he⟩:=hr
   repeat (first|refine sc rfl ?_|refine so rfl ?_)
   refine C_if rfl (fun m2=>?_) (fun m2=>?_)<;>simp only [pL] at m2
   ·repeat (first|refine sc rfl ?_|refine so rfl ?_)
    exact ⟨_,rfl,rfl,e,rfl,⟨fun h=>absurd h m2,fun h=>by obtain ⟨q1,q2,q3,q4,q5,q6⟩:=h;exact absurd (he.2 (q6 i hil)) m2⟩⟩
   ·repeat (first|refine sc rfl ?_|refine so rfl ?_)
    rw [w64 (x:=(i:Int)+1) (by omega) (by omega)]
    refine ⟨i+1,⟨hil,fun j hj=>?_⟩,by omega,Le.sub [] ⟨rfl,rfl,rfl,rfl,trivial⟩ rfl⟩
    rcases Nat.lt_or_ge j i with h|h
    ·exact hall j h
    ·obtain rfl:j=i:=by omega
     exact he.1 m2
  ·obtain rfl:i=t.of.length:=by omega
   repeat (first|refine sc rfl ?_|refine so rfl ?_)
   exact ⟨_,rfl,rfl,0,rfl,⟨fun _=>.mk hlen (fun _=>hnm) (fun h=>absurd h hk) hI.1 hI.2 hall,fun _=>rfl⟩⟩
end Go.Proofs

namespace Go.Proofs
open Go.Sy Go.Lib

noncomputable abbrev iK:Key Tryz.prog 3 Int:=intKey Tryz.underlying3
abbrev ikey (i:Int):Value:=.int .i64 i
theorem sameBits_ik (k:Int):Instr.sameBits 10000 (ikey k) (ikey k)=true:=by
 show Instr.sameBits (9999+1) (.int .i64 k) (.int .i64 k)=true
 simp [Instr.sameBits]

theorem lookE_upd {α:Type} [DecidableEq α] (k:α) (x:AV):∀ es:List (α×AV),lookE k (updE k x es)=some x
 | []=>by simp [updE,lookE]
 | (j,y)::es=>by
  simp only [updE]
  split
  ·rename_i h;simp [lookE,h]
  ·rename_i h;simp only [lookE,if_neg h];exact lookE_upd k x es

abbrev ones {α:Type} (l:List α):List (α×AV):=l.map fun t=>(t,I64 1)
theorem lookE_ones {α:Type} [DecidableEq α] (k:α):∀ l:List α,lookE k (ones l)=if k∈l then some (I64 1) else none
 | []=>by simp [lookE]
 | a::l=>by
  simp only [ones,List.map_cons,lookE,List.mem_cons]
  by_cases h:a=k
  ·simp [h]
  ·have h2:¬ k=a:=fun e=>h e.symm
   rw [if_neg h,show lookE k (List.map (fun t=>(t,I64 1)) l)=lookE k (ones l) from rfl,lookE_ones k l]
   simp [h2]
def cntOf {α:Type} [DecidableEq α] (k:α) (l:List α):Int:=if k∈l then 1 else 0
theorem look_ones {α:Type} [DecidableEq α] (k:α) (l:List α):(lookE k (ones l)).getD (I64 0)=I64 (cntOf k l):=by
 rw [lookE_ones];unfold cntOf;split<;>rfl
theorem cnt_wrap {α:Type} [DecidableEq α] (k:α) (l:List α):IntKind.i64.wrap (cntOf k l+1)=cntOf k l+1:=by
 unfold cntOf;split<;>rfl

abbrev seenA (bS mt mn:Nat):Abs:=boxA bS 206 [.v (.map (some mt)),.v (.map (some mn))]
abbrev tagA (mt:Nat) (es:List (Int×AV)):Abs:=mapA ikey (some mt) es
abbrev namA (mn:Nat) (es:List (List UInt8×AV)):Abs:=mapA S (some mn) es

theorem row_A (bS mt mn:Nat) (ts:List Int) (ns:List (List UInt8)) (tag:Int) (name:List UInt8) (least most:Int) :
  FnA Tryz.prog 104 [PT bS 0,I64 tag,.s name,I64 least,I64 most] [seenA bS mt mn,tagA mt (ones ts),namA mn (ones ns)]
   (fun r cs'=>∃ e:Int,r=I64 e∧(e=0→cs'=[seenA bS mt mn,tagA mt (ones (ts++[tag])),namA mn (ones (ns++[name]))]∧least≤tag∧tag≤most∧tag∉ts∧name∉ns)∧(least≤tag∧tag≤most∧tag∉ts∧name∉ns→e=0)):=by
 refine fnA Tryz.func104 fun X=>?_
 by_cases h1:tag<least
 ·repeat (first|refine sc rfl ?_|refine so rfl ?_)
  refine O_case 14 rfl (fun g=>?_) (fun g=>?_)<;>simp only [pL] at g
  ·repeat refine so rfl ?_
   refine C_true rfl rfl ?_
   repeat (first|refine sc rfl ?_|refine so rfl ?_)
   exact ⟨_,[],_,rfl,.refl _,rfl,9,rfl,fun h=>absurd h (by decide),fun h=>by omega⟩
  ·exact absurd h1 g
 by_cases h2:most<tag
 ·repeat (first|refine sc rfl ?_|refine so rfl ?_)
  refine O_case 14 rfl (fun g=>?_) (fun g=>?_)<;>simp only [pL] at g
  ·exact absurd g h1
  ·repeat refine so rfl ?_
   refine C_true rfl (by simpa using h2) ?_
   repeat (first|refine sc rfl ?_|refine so rfl ?_)
   exact ⟨_,[],_,rfl,.refl _,rfl,9,rfl,fun h=>absurd h (by decide),fun h=>by omega⟩
 repeat (first|refine sc rfl ?_|refine so rfl ?_)
 refine O_case 14 rfl (fun g=>?_) (fun g=>?_)<;>simp only [pL] at g
 ·exact absurd g h1
 repeat refine so rfl ?_
 refine C_false rfl (by simpa using h2) ?_
 repeat (first|refine sc rfl ?_|refine so rfl ?_)
 refine O_loadP 0 (reads_box 0) rfl rfl rfl rfl rfl rfl ?_
 repeat refine so rfl ?_
 refine O_Xd (X_look 1 (z:=I64 0) iK Tryz.underlying204 rfl rfl (fun e=>by simp only [Rep]) rfl rfl rfl rfl rfl rfl) ?_
 simp only [lookAV,cond_false,look_ones]
 repeat refine so rfl ?_
 rw [cnt_wrap]
 refine O_Xn (X_upd 1 iK Tryz.underlying204 sameBits_ik rfl rfl rfl rfl rfl rfl) ?_
 repeat (first|refine sc rfl ?_|refine so rfl ?_)
 refine O_loadP 1 (reads_box 1) rfl rfl rfl rfl rfl rfl ?_
 repeat refine so rfl ?_
 refine O_Xd (X_lookS 2 (z:=I64 0) sK Tryz.underlying169 rfl rfl (fun e=>by simp only [Rep]) rfl (fun e v h=>kS e h) rfl rfl rfl rfl rfl) ?_
 simp only [lookAV,cond_false,look_ones]
 repeat refine so rfl ?_
 rw [cnt_wrap]
 refine O_Xn (X_updS 2 sK Tryz.underlying169 sameBits_str (fun e v h=>kS e h) rfl rfl rfl rfl rfl rfl) ?_
 repeat (first|refine sc rfl ?_|refine so rfl ?_)
 refine O_loadP 2 (reads_box 0) rfl rfl rfl rfl rfl rfl ?_
 repeat refine so rfl ?_
 refine O_Xd (X_look 1 (z:=I64 0) iK Tryz.underlying204 rfl rfl (fun e=>by simp only [Rep]) rfl rfl rfl rfl rfl rfl) ?_
 simp only [lookAV,cond_false,lookE_upd,Option.getD_some]
 repeat refine so rfl ?_
 refine O_case 40 rfl (fun k1=>?_) (fun k1=>?_)<;>simp only [pL] at k1
 ·repeat refine so rfl ?_
  refine C_true rfl rfl ?_
  repeat (first|refine sc rfl ?_|refine so rfl ?_)
  exact ⟨_,[],_,rfl,.refl _,rfl,7,rfl,fun h=>absurd h (by decide),fun h=>by exfalso;unfold cntOf at k1;rw [if_neg h.2.2.1] at k1;revert k1;decide⟩
 repeat refine so rfl ?_
 refine O_loadP 2 (reads_box 1) rfl rfl rfl rfl rfl rfl ?_
 repeat refine so rfl ?_
 refine O_Xd (X_lookS 0 (z:=I64 0) sK Tryz.underlying169 rfl rfl (fun e=>by simp only [Rep]) rfl (fun e v h=>kS e h) rfl rfl rfl rfl rfl) ?_
 simp only [lookAV,cond_false,lookE_upd,Option.getD_some]
 repeat refine so rfl ?_
 refine C_if rfl (fun k2=>?_) (fun k2=>?_)<;>simp only [pL] at k2
 ·repeat (first|refine sc rfl ?_|refine so rfl ?_)
  exact ⟨_,[],_,rfl,.refl _,rfl,7,rfl,fun h=>absurd h (by decide),fun h=>by exfalso;unfold cntOf at k2;rw [if_neg h.2.2.2] at k2;revert k2;decide⟩
 ·have e1:tag∉ts:=fun h=>k1 (by unfold cntOf;rw [if_pos h];decide)
  have e2:name∉ns:=fun h=>k2 (by unfold cntOf;rw [if_pos h];decide)
  have u1:updE tag (I64 (cntOf tag ts+1)) (ones ts)=ones (ts++[tag]):=by
   rw [updE_new (by rw [lookE_ones,if_neg e1])]
   simp [cntOf,e1]
  have u2:updE name (I64 (cntOf name ns+1)) (ones ns)=ones (ns++[name]):=by
   rw [updE_new (by rw [lookE_ones,if_neg e2])]
   simp [cntOf,e2]
  repeat (first|refine sc rfl ?_|refine so rfl ?_)
  refine ⟨_,[seenA bS mt mn,tagA mt (updE tag (I64 (cntOf tag ts+1)) (ones ts)),namA mn (updE name (I64 (cntOf name ns+1)) (ones ns))],[],rfl,by exact pickA_perm (is:=[2,1,0]) (As:=[_,_,_]) rfl,rfl,0,rfl,fun _=>?_,fun _=>rfl⟩
  rw [u1,u2]
  exact ⟨rfl,by omega,by omega,e1,e2⟩

theorem field_c (l:List Dcl) (d:Dcl) (f:Fld):FnP Tryz.prog 105 [chkV l,.agg (Dcl.c d),.agg (Fld.c f)] (fun r=>∃ e:Int,r=I64 e∧(e=0↔(d.kind≠3→TyOK l false f.ty∧(d.kind=2→f.ty.kind≠9)))):=by
 refine fnP Tryz.func105 fun X=>?_
 have hT:=typ_c l _ f.ty false (Nat.le_refl _)
 have hck:chkV l=.cp [SL 5 Dcl.c l,tabV l]:=rfl
 rw [hck] at hT ⊢
 repeat (first|refine sc rfl ?_|refine so rfl ?_)
 refine C_if rfl (fun h1=>?_) (fun h1=>?_)<;>simp only [pL] at h1
 ·repeat (first|refine sc rfl ?_|refine so rfl ?_)
  exact ⟨_,rfl,rfl,0,rfl,⟨fun _ h=>absurd h1 h,fun _=>rfl⟩⟩
 repeat (first|refine sc rfl ?_|refine so rfl ?_)
 refine O_cP hT fun r hr=>?_
 obtain ⟨e,rfl,he⟩:=hr
 repeat (first|refine sc rfl ?_|refine so rfl ?_)
 refine C_if rfl (fun h2=>?_) (fun h2=>?_)<;>simp only [pL] at h2
 ·repeat (first|refine sc rfl ?_|refine so rfl ?_)
  exact ⟨_,rfl,rfl,e,rfl,⟨fun h=>absurd h h2,fun h=>absurd (he.2 (h h1).1) h2⟩⟩
 repeat (first|refine sc rfl ?_|refine so rfl ?_)
 refine O_case 21 rfl (fun h3=>?_) (fun h3=>?_)<;>simp only [pL] at h3
 ·repeat refine so rfl ?_
  refine C_if rfl (fun h4=>?_) (fun h4=>?_)<;>simp only [pL] at h4
  ·repeat (first|refine sc rfl ?_|refine so rfl ?_)
   exact ⟨_,rfl,rfl,8,rfl,⟨fun h=>absurd h (by decide),fun h=>absurd h4 ((h h1).2 h3)⟩⟩
  ·repeat (first|refine sc rfl ?_|refine so rfl ?_)
   exact ⟨_,rfl,rfl,0,rfl,⟨fun _ _=>⟨he.1 h2,fun _=>h4⟩,fun _=>rfl⟩⟩
 ·repeat refine so rfl ?_
  refine C_false rfl rfl ?_
  repeat (first|refine sc rfl ?_|refine so rfl ?_)
  exact ⟨_,rfl,rfl,0,rfl,⟨fun _ _=>⟨he.1 h2,fun h=>absurd h h3⟩,fun _=>rfl⟩⟩

theorem meth_two {l:List Dcl} {m:Mth} (h:kindL l m.fin=1∧kindL l m.fout=1) {i:Nat} (hi:i<2):kindL l ([m.fin,m.fout].getD i default)=1 :=
 match i,hi with
 | 0,_=>h.1
 | 1,_=>h.2
theorem meth_find {l:List Dcl} {nm:List UInt8} (h:(!(fndL nm l).isSome)=true) (hk:kindL l nm=1):False:=by
 unfold kindL at hk
 cases hf:fndL nm l with
 | none=>rw [hf] at hk;cases hk
 | some j=>rw [hf] at h;cases h

theorem method_c (l:List Dcl) (m:Mth):FnP Tryz.prog 106 [chkV l,.agg (Mth.c m)] (fun r=>∃ e:Int,r=I64 e∧(e=0↔(kindL l m.fin=1∧kindL l m.fout=1))):=by
 refine fnP Tryz.func106 fun X=>?_
 have hck:chkV l=.cp [SL 5 Dcl.c l,tabV l]:=rfl
 rw [hck]
 iterate 13 (first|refine sc rfl ?_|refine so rfl ?_|refine sb rfl ?_)
 refine O_le _ (Le.lit 13 STRc ([m.fin,m.fout]:List (List UInt8)) rfl rfl rfl (by intro j hj;match j,hj with|0,_=>rfl|1,_=>rfl)) ?_
 repeat (first|refine sc rfl ?_|refine so rfl ?_)
 refine C_loop (fun i:Nat=>⟨[(0,.cp [SL 5 Dcl.c l,tabV l]),(13,SL 1 STRc [m.fin,m.fout]),(14,I64 2),(15,I64 (i:Nat))],[]⟩) (fun i=>i≤2∧∀ j,j<i→kindL l ([m.fin,m.fout].getD j default)=1) (fun i=>2-i) 0 ⟨by omega,fun j hj=>absurd hj (Nat.not_lt_zero _)⟩ (Le.sub [] ⟨rfl,rfl,rfl,rfl,trivial⟩ rfl) ?_
 rintro i ⟨hi,hall⟩
 repeat (first|refine sc rfl ?_|refine so rfl ?_)
 have hK:=Kind_c l ([m.fin,m.fout].getD i default)
 have hF:=Find_c l ([m.fin,m.fout].getD i default)
 refine C_if rfl (fun h1=>?_) (fun h1=>?_)<;>simp only [pL] at h1
 ·repeat (first|refine sc rfl ?_|refine so rfl ?_)
  refine ⟨⟨by omega,by simpa using h1⟩,?_⟩
  repeat (first|refine sc rfl ?_|refine so rfl ?_)
  refine O_cP hF fun r hr=>?_
  subst hr
  repeat (first|refine sc rfl ?_|refine so rfl ?_)
  refine C_if rfl (fun h2=>?_) (fun h2=>?_)
  ·repeat (first|refine sc rfl ?_|refine so rfl ?_)
   exact ⟨_,rfl,rfl,6,rfl,⟨fun h=>absurd h (by decide),fun h=>by exfalso;exact meth_find h2 (meth_two h (by omega))⟩⟩
  repeat (first|refine sc rfl ?_|refine so rfl ?_)
  refine O_cP hK fun r hr=>?_
  subst hr
  repeat refine so rfl ?_
  refine C_if rfl (fun h3=>?_) (fun h3=>?_)<;>simp only [pL] at h3
  ·repeat (first|refine sc rfl ?_|refine so rfl ?_)
   exact ⟨_,rfl,rfl,8,rfl,⟨fun h=>absurd h (by decide),fun h=>absurd (meth_two h (by omega)) h3⟩⟩
  ·repeat (first|refine sc rfl ?_|refine so rfl ?_)
   rw [w64 (x:=(i:Int)+1) (by omega) (by omega)]
   refine ⟨i+1,⟨by omega,fun j hj=>?_⟩,by omega,Le.sub [] ⟨rfl,rfl,rfl,rfl,trivial⟩ rfl⟩
   rcases Nat.lt_or_ge j i with h|h
   ·exact hall j h
   ·obtain rfl:j=i:=by omega
    exact h3
 ·repeat (first|refine sc rfl ?_|refine so rfl ?_)
  exact ⟨_,rfl,rfl,0,rfl,⟨fun _=>⟨hall 0 (by omega),hall 1 (by omega)⟩,fun _=>rfl⟩⟩
end Go.Proofs

namespace Go.Proofs
open Go.Sy Go.Lib

theorem fndL_some {nm:List UInt8}:∀ {l:List Dcl} {i:Nat},i<l.length→(l.getD i default).name=nm→∃ j,fndL nm l=some j
 | [],i,h,_=>by simp at h
 | d::l,0,_,h=>⟨0,by simp only [fndL];rw [if_pos (by simpa using h)]⟩
 | d::l,i+1,h,hn=>by
  simp only [fndL]
  split
  ·exact ⟨0,rfl⟩
  ·obtain ⟨j,hj⟩:=fndL_some (l:=l) (i:=i) (by simpa using h) (by simpa using hn)
   exact ⟨j+1,by rw [hj];rfl⟩

def leastD (k:Int):Int:=if k=3 then 0 else 1
def mostD (k:Int):Int:=if k=3 then 9999 else 255

structure FldsOK (l:List Dcl) (d:Dcl) (F:List Fld):Prop where
 rng:∀ f∈F,leastD d.kind≤f.tag∧f.tag≤mostD d.kind
 ty:∀ f∈F,d.kind≠3→TyOK l false f.ty∧(d.kind=2→f.ty.kind≠9)
structure MthsOK (l:List Dcl) (d:Dcl) (M:List Mth):Prop where
 rng:∀ m∈M,leastD d.kind≤m.tag∧m.tag≤mostD d.kind
 kd:∀ m∈M,kindL l m.fin=1∧kindL l m.fout=1

structure DclOK (l:List Dcl) (i:Nat) (d:Dcl):Prop where
 at_:fndL d.name l=some i
 kind:d.kind=1∨d.kind=2∨d.kind=3∨d.kind=4
 fs:FldsOK l d d.fields
 ms:MthsOK l d d.methods
 tags:(d.fields.map (·.tag)++d.methods.map (·.tag)).Nodup
 names:(d.fields.map (·.name)++d.methods.map (·.name)).Nodup
 some_:d.kind=2∨d.kind=3→d.fields≠[]

theorem getD_at {α:Type} [Inhabited α] {l:List α} {i:Nat} (h:i<l.length):l.getD i default=l[i]:=by
 rw [List.getD_eq_getElem?_getD,List.getElem?_eq_getElem h];rfl
theorem nodup_snoc {α:Type} {l:List α} {a:α} (h:l.Nodup) (ha:a∉l):(l++[a]).Nodup :=
 List.nodup_append.2 ⟨h,by simp,fun x hx y hy=>by simp only [List.mem_singleton] at hy;subst hy;exact fun e=>ha (e▸hx)⟩

theorem snoc_new {α:Type} {l:List α} {a:α} (h:(l++[a]).Nodup):a∉l:=fun ha=>(List.nodup_append.1 h).2.2 a ha a (by simp) rfl

theorem decl_c (l:List Dcl) (i:Nat) (hi:i<l.length) (hf:(l.getD i default).fields.length≤1000) (hm:(l.getD i default).methods.length≤1000) :
  FnP Tryz.prog 61 [chkV l,I64 (i:Nat)] (fun r=>∃ e:Int,r=I64 e∧(e=0↔DclOK l i (l.getD i default))):=by
 refine fnP Tryz.func61 fun X=>?_
 have hF:=Find_c l (l.getD i default).name
 have hck:chkV l=.cp [SL 5 Dcl.c l,tabV l]:=rfl
 rw [hck]
 repeat (first|refine sc rfl ?_|refine so rfl ?_)
 refine ⟨by omega,?_⟩
 rw [Int.toNat_natCast]
 repeat (first|refine sc rfl ?_|refine so rfl ?_)
 refine C_drawD rfl (by kernel_rfl) ?_
 repeat refine sd rfl ?_
 refine D_call hF rfl rfl rfl rfl ?_
 repeat refine sd rfl ?_
 repeat (first|refine sc rfl ?_|refine so rfl ?_)
 obtain ⟨j0,hj0⟩:=fndL_some hi rfl
 have hI0:fndI (l.getD i default).name l=(j0:Nat):=by unfold fndI;rw [hj0];rfl
 refine C_if rfl (fun h1=>?_) (fun h1=>?_)<;>simp only [pL] at h1
 ·repeat (first|refine sc rfl ?_|refine so rfl ?_)
  exact ⟨_,rfl,rfl,7,rfl,⟨fun h=>absurd h (by decide),fun h=>by exfalso;have:=h.at_;rw [hj0] at this;cases this;omega⟩⟩
 have hji:j0=i:=by omega
 rw [hji] at hj0
 generalize hd:l.getD i default=d at *
 iterate 12 (first|refine sc rfl ?_|refine so rfl ?_)
 refine C_joinE (fun q:Int×Int=>⟨[(0,.cp [SL 5 Dcl.c l,tabV l]),(5,.bp 5 0),(8,I64 q.1),(9,I64 q.2)],[.box 5 53 (Dcl.c d)]⟩) (fun q=>(d.kind=1∨d.kind=2∨d.kind=3∨d.kind=4)∧q=(leastD d.kind,mostD d.kind)) ?_ (fun q s hI hle=>C_le _ hle ?_)
 ·repeat (first|refine sc rfl ?_|refine so rfl ?_)
  refine C_if rfl (fun a1=>?_) (fun a1=>?_)<;>simp only [pL] at a1
  ·repeat refine sc rfl ?_
   refine C_true rfl (by simp [a1]) ?_
   repeat refine sc rfl ?_
   exact ⟨(1,255),⟨.inl a1,by simp [leastD,mostD,a1]⟩,Le.sub [5] ⟨rfl,rfl,rfl,rfl,trivial⟩ rfl⟩
  repeat (first|refine sc rfl ?_|refine so rfl ?_)
  refine C_if rfl (fun a2=>?_) (fun a2=>?_)<;>simp only [pL] at a2
  ·repeat refine sc rfl ?_
   refine C_true rfl (by simp [a2]) ?_
   repeat refine sc rfl ?_
   exact ⟨(1,255),⟨.inr (.inl a2),by simp [leastD,mostD,a2]⟩,Le.sub [5] ⟨rfl,rfl,rfl,rfl,trivial⟩ rfl⟩
  repeat (first|refine sc rfl ?_|refine so rfl ?_)
  refine C_if rfl (fun a4=>?_) (fun a4=>?_)<;>simp only [pL] at a4
  ·repeat refine sc rfl ?_
   exact ⟨(1,255),⟨.inr (.inr (.inr a4)),by simp [leastD,mostD,a4]⟩,Le.sub [5] ⟨rfl,rfl,rfl,rfl,trivial⟩ rfl⟩
  repeat (first|refine sc rfl ?_|refine so rfl ?_)
  refine C_if rfl (fun a3=>?_) (fun a3=>?_)<;>simp only [pL] at a3
  ·repeat (first|refine sc rfl ?_|refine so rfl ?_)
   exact ⟨(0,9999),⟨.inr (.inr (.inl a3)),by simp [leastD,mostD,a3]⟩,Le.sub [5] ⟨rfl,rfl,rfl,rfl,trivial⟩ rfl⟩
  ·repeat (first|refine sc rfl ?_|refine so rfl ?_)
   exact ⟨_,rfl,rfl,4,rfl,⟨fun h=>absurd h (by decide),fun h=>by exfalso;rcases h.kind with h|h|h|h;exact a1 h;exact a2 h;exact a3 h;exact a4 h⟩⟩
 obtain ⟨hkd,rfl⟩:=hI
 repeat refine sc rfl ?_
 refine O_makeMap ikey rfl (fun mt=>?_)
 refine O_makeMap S rfl (fun mn=>?_)
 repeat (first|refine sc rfl ?_|refine so rfl ?_)
 refine C_absb 10 rfl rfl rfl (fun bS=>?_)
 refine C_loop (fun k:Nat=>⟨[(0,.cp [SL 5 Dcl.c l,tabV l]),(5,.bp 5 0),(8,I64 (leastD d.kind)),(9,I64 (mostD d.kind)),(10,PT bS 0),(52,SL 5 Fld.c d.fields),(53,I64 (d.fields.length:Nat)),(54,I64 (k:Nat))],
   [.box 5 53 (Dcl.c d),.abs (seenA bS mt mn),.abs (tagA mt (ones ((d.fields.take k).map (·.tag)))),.abs (namA mn (ones ((d.fields.take k).map (·.name))))]⟩)
  (fun k=>k≤d.fields.length∧FldsOK l d (d.fields.take k)∧((d.fields.take k).map (·.tag)).Nodup∧((d.fields.take k).map (·.name)).Nodup) (fun k=>d.fields.length-k) 0 ⟨Nat.zero_le _,⟨by simp,by simp⟩,by simp,by simp⟩ (Le.pick [3,0,1,0] ⟨rfl,rfl,rfl,rfl,rfl,rfl,rfl,rfl,trivial⟩ rfl) ?_
 rintro k ⟨hk,hok,hn1,hn2⟩
 repeat (first|refine sc rfl ?_|refine so rfl ?_)
 refine C_if rfl (fun m1=>?_) (fun m1=>?_)<;>simp only [pL] at m1
 ·have hkl:k<d.fields.length:=by omega
  have hg:=getD_at hkl
  have ht1:(d.fields.take (k+1)).map (·.tag)=(d.fields.take k).map (·.tag)++[(d.fields.getD k default).tag]:=by
   rw [List.take_succ_eq_append_getElem hkl,List.map_append,hg];rfl
  have ht2:(d.fields.take (k+1)).map (·.name)=(d.fields.take k).map (·.name)++[(d.fields.getD k default).name]:=by
   rw [List.take_succ_eq_append_getElem hkl,List.map_append,hg];rfl
  have ht3:d.fields.take (k+1)=d.fields.take k++[d.fields.getD k default]:=by
   rw [List.take_succ_eq_append_getElem hkl,hg]
  have hrow:=row_A bS mt mn ((d.fields.take k).map (·.tag)) ((d.fields.take k).map (·.name)) (d.fields.getD k default).tag (d.fields.getD k default).name (leastD d.kind) (mostD d.kind)
  have hfld:=field_c l d (d.fields.getD k default)
  rw [← ht1,← ht2] at hrow
  rw [hck] at hfld
  repeat (first|refine sc rfl ?_|refine so rfl ?_)
  refine ⟨by omega,?_⟩
  rw [Int.toNat_natCast]
  repeat (first|refine sc rfl ?_|refine so rfl ?_)
  refine O_cA [2,2,2] hrow ?_
  rintro r cs' ⟨e,rfl,he⟩
  by_cases e0:e=0
  ·obtain ⟨rfl,p1,p2,p3,p4⟩:=he.1 e0
   subst e0
   repeat (first|refine sc rfl ?_|refine so rfl ?_)
   refine C_false rfl rfl ?_
   repeat (first|refine sc rfl ?_|refine so rfl ?_)
   refine O_cP hfld fun r hr=>?_
   obtain ⟨e2,rfl,he2⟩:=hr
   repeat (first|refine sc rfl ?_|refine so rfl ?_)
   refine C_if rfl (fun m2=>?_) (fun m2=>?_)<;>simp only [pL] at m2
   ·repeat (first|refine sc rfl ?_|refine so rfl ?_)
    exact ⟨_,rfl,rfl,e2,rfl,⟨fun h=>absurd h m2,fun h=>absurd (he2.2 (fun hne=>h.fs.ty _ (by rw [getD_at hkl];exact List.getElem_mem hkl) hne)) m2⟩⟩
   ·repeat (first|refine sc rfl ?_|refine so rfl ?_)
    rw [w64 (x:=(k:Int)+1) (by omega) (by omega)]
    refine ⟨k+1,⟨hkl,?_,?_,?_⟩,by omega,Le.pick [4,0,0,0] ⟨rfl,rfl,rfl,rfl,rfl,rfl,rfl,rfl,trivial⟩ rfl⟩
    ·rw [ht3]
     constructor
     ·intro g hg
      rcases List.mem_append.1 hg with h|h
      ·exact hok.rng g h
      ·simp only [List.mem_singleton] at h;subst h;exact ⟨p1,p2⟩
     ·intro g hg hne
      rcases List.mem_append.1 hg with h|h
      ·exact hok.ty g h hne
      ·simp only [List.mem_singleton] at h;subst h;exact he2.1 m2 hne
    ·rw [ht1];exact nodup_snoc hn1 p3
    ·rw [ht2];exact nodup_snoc hn2 p4
  ·repeat (first|refine sc rfl ?_|refine so rfl ?_)
   refine C_true rfl (by simp [e0]) ?_
   repeat (first|refine sc rfl ?_|refine so rfl ?_)
   exact ⟨_,rfl,rfl,e,rfl,⟨fun h=>absurd h e0,fun h=>absurd (he.2 (by
    have hm1:d.fields.getD k default∈d.fields:=by rw [getD_at hkl];exact List.getElem_mem hkl
    refine ⟨(h.fs.rng _ hm1).1,(h.fs.rng _ hm1).2,?_,?_⟩
    ·exact (snoc_new (by rw [← ht1];exact ((List.nodup_append.1 h.tags).1.sublist ((List.take_sublist _ _).map _))))
    ·exact (snoc_new (by rw [← ht2];exact ((List.nodup_append.1 h.names).1.sublist ((List.take_sublist _ _).map _)))))) e0⟩⟩
 obtain rfl:k=d.fields.length:=by omega
 rw [List.take_length] at hok hn1 hn2
 simp only [List.take_length]
 repeat (first|refine sc rfl ?_|refine so rfl ?_)
 refine C_loop (fun k:Nat=>⟨[(0,.cp [SL 5 Dcl.c l,tabV l]),(5,.bp 5 0),(8,I64 (leastD d.kind)),(9,I64 (mostD d.kind)),(10,PT bS 0),(78,SL 5 Mth.c d.methods),(79,I64 (d.methods.length:Nat)),(80,I64 (k:Nat))],
   [.box 5 53 (Dcl.c d),.abs (seenA bS mt mn),.abs (tagA mt (ones (d.fields.map (·.tag)++(d.methods.take k).map (·.tag)))),.abs (namA mn (ones (d.fields.map (·.name)++(d.methods.take k).map (·.name))))]⟩)
  (fun k=>k≤d.methods.length∧MthsOK l d (d.methods.take k)∧(d.fields.map (·.tag)++(d.methods.take k).map (·.tag)).Nodup∧(d.fields.map (·.name)++(d.methods.take k).map (·.name)).Nodup) (fun k=>d.methods.length-k) 0 ⟨Nat.zero_le _,⟨by simp,by simp⟩,by simpa using hn1,by simpa using hn2⟩ ?_ ?_
 ·simp only [List.take_zero,List.map_nil,List.append_nil]
  exact Le.pick [0,0,0,0] ⟨rfl,rfl,rfl,rfl,rfl,rfl,rfl,rfl,trivial⟩ rfl
 rintro k ⟨hk,hmok,hn1,hn2⟩
 repeat (first|refine sc rfl ?_|refine so rfl ?_)
 refine C_if rfl (fun m1=>?_) (fun m1=>?_)<;>simp only [pL] at m1
 ·have hkl:k<d.methods.length:=by omega
  have hg:=getD_at hkl
  have ht1:d.fields.map (·.tag)++(d.methods.take (k+1)).map (·.tag)=d.fields.map (·.tag)++(d.methods.take k).map (·.tag)++[(d.methods.getD k default).tag]:=by
   rw [List.take_succ_eq_append_getElem hkl,List.map_append,hg,List.append_assoc];rfl
  have ht2:d.fields.map (·.name)++(d.methods.take (k+1)).map (·.name)=d.fields.map (·.name)++(d.methods.take k).map (·.name)++[(d.methods.getD k default).name]:=by
   rw [List.take_succ_eq_append_getElem hkl,List.map_append,hg,List.append_assoc];rfl
  have ht3:d.methods.take (k+1)=d.methods.take k++[d.methods.getD k default]:=by
   rw [List.take_succ_eq_append_getElem hkl,hg]
  have hrow:=row_A bS mt mn (d.fields.map (·.tag)++(d.methods.take k).map (·.tag)) (d.fields.map (·.name)++(d.methods.take k).map (·.name)) (d.methods.getD k default).tag (d.methods.getD k default).name (leastD d.kind) (mostD d.kind)
  have hmth:=method_c l (d.methods.getD k default)
  rw [← ht1,← ht2] at hrow
  rw [hck] at hmth
  repeat (first|refine sc rfl ?_|refine so rfl ?_)
  refine ⟨by omega,?_⟩
  rw [Int.toNat_natCast]
  repeat (first|refine sc rfl ?_|refine so rfl ?_)
  refine O_cA [2,2,2] hrow ?_
  rintro r cs' ⟨e,rfl,he⟩
  by_cases e0:e=0
  ·obtain ⟨rfl,p1,p2,p3,p4⟩:=he.1 e0
   subst e0
   repeat (first|refine sc rfl ?_|refine so rfl ?_)
   refine C_false rfl rfl ?_
   repeat (first|refine sc rfl ?_|refine so rfl ?_)
   refine O_cP hmth fun r hr=>?_
   obtain ⟨e2,rfl,he2⟩:=hr
   repeat (first|refine sc rfl ?_|refine so rfl ?_)
   refine C_if rfl (fun m2=>?_) (fun m2=>?_)<;>simp only [pL] at m2
   ·repeat (first|refine sc rfl ?_|refine so rfl ?_)
    exact ⟨_,rfl,rfl,e2,rfl,⟨fun h=>absurd h m2,fun h=>absurd (he2.2 (h.ms.kd _ (by rw [getD_at hkl];exact List.getElem_mem hkl))) m2⟩⟩
   ·repeat (first|refine sc rfl ?_|refine so rfl ?_)
    rw [w64 (x:=(k:Int)+1) (by omega) (by omega)]
    refine ⟨k+1,⟨hkl,?_,?_,?_⟩,by omega,Le.pick [4,0,0,0] ⟨rfl,rfl,rfl,rfl,rfl,rfl,rfl,rfl,trivial⟩ rfl⟩
    ·rw [ht3]
     constructor
     ·intro g hg
      rcases List.mem_append.1 hg with h|h
      ·exact hmok.rng g h
      ·simp only [List.mem_singleton] at h;subst h;exact ⟨p1,p2⟩
     ·intro g hg
      rcases List.mem_append.1 hg with h|h
      ·exact hmok.kd g h
      ·simp only [List.mem_singleton] at h;subst h;exact he2.1 m2
    ·rw [ht1];exact nodup_snoc hn1 p3
    ·rw [ht2];exact nodup_snoc hn2 p4
  ·repeat (first|refine sc rfl ?_|refine so rfl ?_)
   refine C_true rfl (by simp [e0]) ?_
   repeat (first|refine sc rfl ?_|refine so rfl ?_)
   exact ⟨_,rfl,rfl,e,rfl,⟨fun h=>absurd h e0,fun h=>absurd (he.2 (by
    have hm1:d.methods.getD k default∈d.methods:=by rw [getD_at hkl];exact List.getElem_mem hkl
    refine ⟨(h.ms.rng _ hm1).1,(h.ms.rng _ hm1).2,?_,?_⟩
    ·exact (snoc_new (by rw [← ht1];exact h.tags.sublist (List.Sublist.append_left ((List.take_sublist _ _).map _) _)))
    ·exact (snoc_new (by rw [← ht2];exact h.names.sublist (List.Sublist.append_left ((List.take_sublist _ _).map _) _))))) e0⟩⟩
 obtain rfl:k=d.methods.length:=by omega
 rw [List.take_length] at hmok hn1 hn2
 repeat (first|refine sc rfl ?_|refine so rfl ?_)
 refine O_case 105 rfl (fun c1=>?_) (fun c1=>?_)<;>simp only [pL] at c1
 ·repeat refine so rfl ?_
  refine C_if rfl (fun c2=>?_) (fun c2=>?_)<;>simp only [pL] at c2
  ·repeat (first|refine sc rfl ?_|refine so rfl ?_)
   exact ⟨_,rfl,rfl,12,rfl,⟨fun h=>absurd h (by decide),fun h=>absurd (List.length_eq_zero_iff.1 (by omega)) (h.some_ (by first|exact .inl c1|exact .inr c3))⟩⟩
  ·repeat (first|refine sc rfl ?_|refine so rfl ?_)
   exact ⟨_,rfl,rfl,0,rfl,⟨fun _=>⟨hj0,hkd,hok,hmok,hn1,hn2,fun _ h=>c2 (by rw [h];rfl)⟩,fun _=>rfl⟩⟩
 ·repeat refine so rfl ?_
  refine O_case 110 rfl (fun c3=>?_) (fun c3=>?_)<;>simp only [pL] at c3
  ·repeat refine so rfl ?_
   refine C_if rfl (fun c2=>?_) (fun c2=>?_)<;>simp only [pL] at c2
   ·repeat (first|refine sc rfl ?_|refine so rfl ?_)
    exact ⟨_,rfl,rfl,12,rfl,⟨fun h=>absurd h (by decide),fun h=>absurd (List.length_eq_zero_iff.1 (by omega)) (h.some_ (by first|exact .inl c1|exact .inr c3))⟩⟩
   ·repeat (first|refine sc rfl ?_|refine so rfl ?_)
    exact ⟨_,rfl,rfl,0,rfl,⟨fun _=>⟨hj0,hkd,hok,hmok,hn1,hn2,fun _ h=>c2 (by rw [h];rfl)⟩,fun _=>rfl⟩⟩
  ·repeat refine so rfl ?_
   refine C_false rfl rfl ?_
   repeat (first|refine sc rfl ?_|refine so rfl ?_)
   exact ⟨_,rfl,rfl,0,rfl,⟨fun _=>⟨hj0,hkd,hok,hmok,hn1,hn2,fun h=>h.elim (fun h=>absurd h c1) (fun h=>absurd h c3)⟩,fun _=>rfl⟩⟩
end Go.Proofs

namespace Go.Proofs
open Go.Sy Go.Lib

def fineB (l:List Dcl) (ks:List Bool) (t:Ty):Bool:=if t.kind=6 then (match fndL t.name l with
 | none=>false
 | some j=>ks.getD j false) else true

abbrev knA (b:Nat) (ks:List Bool):Abs:=slO (HO b 0 ks.length ks.length) 4 1 (ks.map B)

theorem fine_A (l:List Dcl) (b:Nat) (ks:List Bool) (hl:ks.length=l.length) (t:Ty) :
  FnA Tryz.prog 134 [.agg (Ty.c t),.cp [chkV l],.cp [.v (HO b 0 ks.length ks.length)]] [knA b ks] (fun r cs'=>r=B (fineB l ks t)∧cs'=[knA b ks]):=by
 refine fnA Tryz.func134 fun X=>?_
 have hF:=Find_c l t.name
 have hck:chkV l=.cp [SL 5 Dcl.c l,tabV l]:=rfl
 rw [hck]
 repeat (first|refine sc rfl ?_|refine so rfl ?_)
 refine C_drawD rfl (by kernel_rfl) ?_
 repeat refine sd rfl ?_
 refine D_call hF rfl rfl rfl rfl ?_
 repeat refine sd rfl ?_
 repeat (first|refine sc rfl ?_|refine so rfl ?_)
 refine O_case 20 rfl (fun h1=>?_) (fun h1=>?_)<;>simp only [pL] at h1
 ·repeat (first|refine sc rfl ?_|refine so rfl ?_)
  exact ⟨_,[knA b ks],_,rfl,.swap _ _ _,rfl,by simp [fineB,h1],rfl⟩
 cases hf:fndL t.name l with
 | none =>
  repeat (first|refine sc rfl ?_|refine so rfl ?_)
  exact ⟨_,[knA b ks],_,rfl,.swap _ _ _,rfl,by simp [fineB,h1,hf],rfl⟩
 | some j =>
  have hj:=fndL_lt hf
  have hI0:fndI t.name l=(j:Nat):=by unfold fndI;rw [hf];rfl
  rw [hI0]
  repeat refine so rfl ?_
  refine ⟨by omega,?_⟩
  rw [Int.toNat_natCast]
  have hget:(ks.map B)[j*1]?=some (B (ks.getD j false)):=by
   rw [Nat.mul_one,List.getElem?_map,List.getElem?_eq_getElem (by omega),List.getD_eq_getElem?_getD,List.getElem?_eq_getElem (by omega)];rfl
  refine O_loadO 1 hget rfl rfl rfl rfl rfl ?_
  repeat (first|refine sc rfl ?_|refine so rfl ?_)
  exact ⟨_,[knA b ks],_,rfl,.swap _ _ _,rfl,by simp [fineB,h1,hf],rfl⟩

def finB (l:List Dcl) (ks:List Bool) (d:Dcl):Bool :=
 if d.kind=3∨d.kind=4 then true else if d.kind=1 then d.fields.all (fun f=>fineB l ks f.ty) else if d.kind=2 then d.fields.any (fun f=>fineB l ks f.ty) else false
theorem all_of {F:List Fld} {p:Fld→Bool} (h:∀ j,j<F.length→p (F.getD j default)=true):F.all p=true :=
 List.all_eq_true.2 (fun x hx=>by obtain ⟨j,hj,rfl⟩:=List.mem_iff_getElem.1 hx;have:=h j hj;rwa [getD_at hj] at this)
theorem all_not {F:List Fld} {p:Fld→Bool} {j:Nat} (hj:j<F.length) (h:p (F.getD j default)=false):F.all p=false:=by
 cases ha:F.all p with
 | false=>rfl
 | true =>
  have:=List.all_eq_true.1 ha (F.getD j default) (by rw [getD_at hj];exact List.getElem_mem hj)
  rw [h] at this;cases this
theorem any_of {F:List Fld} {p:Fld→Bool} {j:Nat} (hj:j<F.length) (h:p (F.getD j default)=true):F.any p=true :=
 List.any_eq_true.2 ⟨F.getD j default,by rw [getD_at hj];exact List.getElem_mem hj,h⟩
theorem any_not {F:List Fld} {p:Fld→Bool} (h:∀ j,j<F.length→p (F.getD j default)=false):F.any p=false:=by
 cases ha:F.any p with
 | false=>rfl
 | true =>
  obtain ⟨x,hx,hp⟩:=List.any_eq_true.1 ha
  obtain ⟨j,hj,rfl⟩:=List.mem_iff_getElem.1 hx
  have:=h j hj
  rw [getD_at hj,hp] at this;cases this

theorem finite_A (l:List Dcl) (b:Nat) (ks:List Bool) (hl:ks.length=l.length) (d:Dcl) (hd:d.fields.length≤1000) :
  FnA Tryz.prog 107 [chkV l,.agg (Dcl.c d),.v (HO b 0 ks.length ks.length)] [knA b ks] (fun r cs'=>r=B (finB l ks d)∧cs'=[knA b ks]):=by
 refine fnA Tryz.func107 fun X=>?_
 have hfine:∀ t,_:=fun t=>fine_A l b ks hl t
 iterate 7 (first|refine sc rfl ?_|refine so rfl ?_)
 refine C_le _ (Le.freezebox 3 rfl rfl rfl) ?_
 refine C_le _ (Le.freezebox 5 rfl rfl rfl) ?_
 repeat refine sc rfl ?_
 refine O_makeFunc rfl rfl rfl rfl ?_
 repeat (first|refine sc rfl ?_|refine so rfl ?_)
 refine C_if rfl (fun a1=>?_) (fun a1=>?_)<;>simp only [pL] at a1
 ·repeat refine sc rfl ?_
  refine C_true rfl (by simp [a1]) ?_
  repeat (first|refine sc rfl ?_|refine so rfl ?_)
  exact ⟨_,[knA b ks],_,rfl,pickA_perm (is:=[1]) (As:=[_]) rfl,rfl,by unfold finB;rw [if_pos (.inl a1)],rfl⟩
 repeat (first|refine sc rfl ?_|refine so rfl ?_)
 refine C_if rfl (fun a2=>?_) (fun a2=>?_)<;>simp only [pL] at a2
 ·repeat (first|refine sc rfl ?_|refine so rfl ?_)
  exact ⟨_,[knA b ks],_,rfl,pickA_perm (is:=[1]) (As:=[_]) rfl,rfl,by unfold finB;rw [if_pos (.inr a2)],rfl⟩
 repeat (first|refine sc rfl ?_|refine so rfl ?_)
 refine C_if rfl (fun a3=>?_) (fun a3=>?_)<;>simp only [pL] at a3
 ·repeat refine sc rfl ?_
  refine C_true rfl (by simp [a3]) ?_
  repeat (first|refine sc rfl ?_|refine so rfl ?_)
  refine C_loop (fun k:Nat=>⟨[(4,.bp 4 0),(7,.p (cloRP 134 [.cp [chkV l],.cp [.v (HO b 0 ks.length ks.length)]])),(20,SL 5 Fld.c d.fields),(21,I64 (d.fields.length:Nat)),(22,I64 (k:Nat))],[.box 4 53 (Dcl.c d),.abs (knA b ks)]⟩) (fun k=>k≤d.fields.length∧∀ j,j<k→fineB l ks (d.fields.getD j default).ty=true) (fun k=>d.fields.length-k) 0 ⟨Nat.zero_le _,fun j hj=>absurd hj (Nat.not_lt_zero _)⟩ (Le.pick [0,0] ⟨rfl,rfl,rfl,rfl,rfl,trivial⟩ rfl) ?_
  rintro k ⟨hk,hall⟩
  repeat (first|refine sc rfl ?_|refine so rfl ?_)
  refine C_if rfl (fun m1=>?_) (fun m1=>?_)<;>simp only [pL] at m1
  ·have hkl:k<d.fields.length:=by omega
   repeat (first|refine sc rfl ?_|refine so rfl ?_)
   refine ⟨by omega,?_⟩
   rw [Int.toNat_natCast]
   repeat (first|refine sc rfl ?_|refine so rfl ?_)
   refine C_drawD rfl (by kernel_rfl) ?_
   repeat refine sd rfl ?_
   refine D_callAV [2] (isClo_p 134 [.cp [chkV l],.cp [.v (HO b 0 ks.length ks.length)]]) rfl (hfine (d.fields.getD k default).ty) rfl rfl rfl rfl rfl rfl ?_
   repeat refine sd rfl ?_
   repeat refine sc rfl ?_
   cases hfb:fineB l ks (d.fields.getD k default).ty with
   | false =>
    refine C_true rfl (by simp [a3]) ?_
    repeat (first|refine sc rfl ?_|refine so rfl ?_)
    exact ⟨_,[knA b ks],_,rfl,pickA_perm (is:=[2]) (As:=[_]) rfl,rfl,by unfold finB;rw [if_neg (by omega),if_pos a3,all_not hkl hfb,a3];rfl,rfl⟩
   | true =>
    refine C_false rfl (by simp [a3]) ?_
    repeat (first|refine sc rfl ?_|refine so rfl ?_)
    rw [w64 (x:=(k:Int)+1) (by omega) (by omega)]
    refine ⟨k+1,⟨by omega,fun j hj=>by
     rcases Nat.lt_or_ge j k with h|h
     ·exact hall j h
     ·obtain rfl:j=k:=by omega
      exact hfb⟩,by omega,Le.pick [1,1] ⟨rfl,rfl,rfl,rfl,rfl,trivial⟩ rfl⟩
  ·repeat (first|refine sc rfl ?_|refine so rfl ?_)
   exact ⟨_,[knA b ks],_,rfl,pickA_perm (is:=[1]) (As:=[_]) rfl,rfl,by unfold finB;rw [if_neg (by omega),if_pos a3,all_of (fun j hj=>hall j (by omega)),a3];rfl,rfl⟩
 repeat (first|refine sc rfl ?_|refine so rfl ?_)
 refine C_if rfl (fun a4=>?_) (fun a4=>?_)<;>simp only [pL] at a4
 ·repeat (first|refine sc rfl ?_|refine so rfl ?_)
  refine C_loop (fun k:Nat=>⟨[(4,.bp 4 0),(7,.p (cloRP 134 [.cp [chkV l],.cp [.v (HO b 0 ks.length ks.length)]])),(20,SL 5 Fld.c d.fields),(21,I64 (d.fields.length:Nat)),(22,I64 (k:Nat))],[.box 4 53 (Dcl.c d),.abs (knA b ks)]⟩) (fun k=>k≤d.fields.length∧∀ j,j<k→fineB l ks (d.fields.getD j default).ty=false) (fun k=>d.fields.length-k) 0 ⟨Nat.zero_le _,fun j hj=>absurd hj (Nat.not_lt_zero _)⟩ (Le.pick [0,0] ⟨rfl,rfl,rfl,rfl,rfl,trivial⟩ rfl) ?_
  rintro k ⟨hk,hall⟩
  repeat (first|refine sc rfl ?_|refine so rfl ?_)
  refine C_if rfl (fun m1=>?_) (fun m1=>?_)<;>simp only [pL] at m1
  ·have hkl:k<d.fields.length:=by omega
   repeat (first|refine sc rfl ?_|refine so rfl ?_)
   refine ⟨by omega,?_⟩
   rw [Int.toNat_natCast]
   repeat (first|refine sc rfl ?_|refine so rfl ?_)
   refine C_drawD rfl (by kernel_rfl) ?_
   repeat refine sd rfl ?_
   refine D_callAV [2] (isClo_p 134 [.cp [chkV l],.cp [.v (HO b 0 ks.length ks.length)]]) rfl (hfine (d.fields.getD k default).ty) rfl rfl rfl rfl rfl rfl ?_
   repeat refine sd rfl ?_
   repeat refine sc rfl ?_
   cases hfb:fineB l ks (d.fields.getD k default).ty with
   | true =>
    refine C_true rfl (by simp [a4]) ?_
    repeat (first|refine sc rfl ?_|refine so rfl ?_)
    exact ⟨_,[knA b ks],_,rfl,pickA_perm (is:=[2]) (As:=[_]) rfl,rfl,by unfold finB;rw [if_neg (by omega),if_neg a3,if_pos a4,any_of hkl hfb,a4];rfl,rfl⟩
   | false =>
    refine C_false rfl (by simp [a4]) ?_
    repeat (first|refine sc rfl ?_|refine so rfl ?_)
    rw [w64 (x:=(k:Int)+1) (by omega) (by omega)]
    refine ⟨k+1,⟨by omega,fun j hj=>by
     rcases Nat.lt_or_ge j k with h|h
     ·exact hall j h
     ·obtain rfl:j=k:=by omega
      exact hfb⟩,by omega,Le.pick [1,1] ⟨rfl,rfl,rfl,rfl,rfl,trivial⟩ rfl⟩
  ·repeat (first|refine sc rfl ?_|refine so rfl ?_)
   exact ⟨_,[knA b ks],_,rfl,pickA_perm (is:=[1]) (As:=[_]) rfl,rfl,by unfold finB;rw [if_neg (by omega),if_neg a3,if_pos a4,any_not (fun j hj=>hall j (by omega)),a4];rfl,rfl⟩
 ·repeat (first|refine sc rfl ?_|refine so rfl ?_)
  exact ⟨_,[knA b ks],_,rfl,pickA_perm (is:=[1]) (As:=[_]) rfl,rfl,by unfold finB;rw [if_neg (by omega),if_neg a3,if_neg a4],rfl⟩
end Go.Proofs

namespace Go.Proofs
open Go.Sy Go.Lib

def Fewl (l:List Dcl):Prop:=l.length≤1000∧∀ i,i<l.length→(l.getD i default).fields.length≤1000∧(l.getD i default).methods.length≤1000

abbrev knN (b n:Nat) (ks:List Bool):Abs:=slO (HO b 0 n n) 4 1 (ks.map B)

theorem count_set {ks:List Bool} {i:Nat} (hi:i<ks.length) (hb:ks.getD i false=false):(ks.set i true).count false<ks.count false:=by
 have h1:ks[i]=false:=by rw [List.getD_eq_getElem?_getD,List.getElem?_eq_getElem hi] at hb;exact hb
 rw [List.count_set hi]
 have:0<ks.count false:=List.count_pos_iff.2 (h1▸List.getElem_mem hi)
 rw [h1];simp;omega

def finAt (l:List Dcl) (ks:List Bool):Nat→Nat→Option Nat
 | 0,_=>none
 | n+1,i=>if !(ks.getD i false)&&finB l ks (l.getD i default) then some i else finAt l ks n (i+1)
def finF (l:List Dcl):Nat→List Bool→List Bool
 | 0,ks=>ks
 | n+1,ks=>match finAt l ks l.length 0 with
  | none=>ks
  | some i=>finF l n (ks.set i true)
theorem finF_len (l:List Dcl):∀ (n:Nat) (ks:List Bool),(finF l n ks).length=ks.length
 | 0,ks=>rfl
 | n+1,ks=>by
  unfold finF
  split
  ·rfl
  ·rw [finF_len l n,List.length_set]

theorem Finite_c (l:List Dcl) (hl:Fewl l):FnP Tryz.prog 62 [SL 5 Dcl.c l] (fun r=>r=SL 1 BOLc (finF l (l.length+1) (List.replicate l.length false))):=by
 refine fnP Tryz.func62 fun X=>?_
 have hO:=Of_w l hl.1
 have hck:chkV l=.cp [SL 5 Dcl.c l,tabV l]:=rfl
 have h1000:=hl.1
 generalize hF0:finF l (l.length+1) (List.replicate l.length false)=F0
 repeat (first|refine sc rfl ?_|refine so rfl ?_)
 refine C_scope ?_
 repeat (first|refine sc rfl ?_|refine so rfl ?_)
 refine O_cP hO fun r hr=>?_
 subst hr
 repeat (first|refine sc rfl ?_|refine so rfl ?_)
 refine O_makeN (m:=l.length) (zc:=.bool false) rfl rfl rfl rfl rfl (by omega) (by simp [maxLen];omega) (fun b=>?_)
 repeat (first|refine sc rfl ?_|refine so rfl ?_)
 refine C_le _ (Le.freezebox 3 rfl rfl rfl) ?_
 refine C_loop (fun ks:List Bool=>⟨[(0,SL 5 Dcl.c l),(3,chkV l),(4,.v (HO b 0 l.length l.length))],[.abs (knN b l.length ks)]⟩) (fun ks=>ks.length=l.length∧∃ n,ks.count false<n∧finF l n ks=F0) (fun ks=>ks.count false) (List.replicate l.length false) ⟨by simp,l.length+1,by simp,hF0⟩ ?_ ?_
 ·have e1:(List.replicate l.length false).map B=List.replicate l.length (AV.v (.bool false)):=by simp
  simp only [knN,e1]
  exact Le.pick [0] ⟨rfl,rfl,rfl,trivial⟩ rfl
 rintro ks ⟨hks,n,hn,hF⟩
 obtain ⟨n,rfl⟩:∃ n',n=n'+1:=⟨n-1,by omega⟩
 simp only [finF] at hF
 have hfin:∀ d:Dcl,d.fields.length≤1000→FnA Tryz.prog 107 [chkV l,.agg (Dcl.c d),.v (HO b 0 l.length l.length)] [knN b l.length ks] (fun r cs'=>r=B (finB l ks d)∧cs'=[knN b l.length ks]):=fun d hd=>by
  have:=finite_A l b ks hks d hd
  simp only [knA,hks] at this
  exact this
 repeat (first|refine sc rfl ?_|refine so rfl ?_)
 refine C_loop (fun i:Nat=>⟨[(0,SL 5 Dcl.c l),(3,chkV l),(4,.v (HO b 0 l.length l.length)),(15,SL 5 Dcl.c l),(16,I64 (l.length:Nat)),(17,I64 (i:Nat))],[.abs (knN b l.length ks)]⟩) (fun i=>i≤l.length∧finAt l ks l.length 0=finAt l ks (l.length-i) i) (fun i=>l.length-i) 0 ⟨Nat.zero_le _,rfl⟩ (Le.pick [0] ⟨rfl,rfl,rfl,rfl,rfl,rfl,trivial⟩ rfl) ?_
 rintro i ⟨hi,hat⟩
 repeat (first|refine sc rfl ?_|refine so rfl ?_)
 refine C_if rfl (fun m1=>?_) (fun m1=>?_)<;>simp only [pL] at m1
 ·have hil:i<l.length:=by omega
  have hst:finAt l ks (l.length-i) i=if !(ks.getD i false)&&finB l ks (l.getD i default) then some i else finAt l ks (l.length-(i+1)) (i+1):=by
   rw [show l.length-i=(l.length-(i+1))+1 by omega];rfl
  obtain ⟨hf1,_⟩:=hl.2 i hil
  have hget:(ks.map B)[i*1]?=some (B (ks.getD i false)):=by
   rw [Nat.mul_one,List.getElem?_map,List.getElem?_eq_getElem (by omega),List.getD_eq_getElem?_getD,List.getElem?_eq_getElem (by omega)];rfl
  repeat (first|refine sc rfl ?_|refine so rfl ?_)
  refine ⟨by omega,?_⟩
  rw [Int.toNat_natCast]
  repeat (first|refine sc rfl ?_|refine so rfl ?_)
  refine ⟨by omega,?_⟩
  rw [Int.toNat_natCast]
  refine O_loadO 1 hget rfl rfl rfl rfl rfl ?_
  repeat refine so rfl ?_
  refine O_case 27 rfl (fun g1=>?_) (fun g1=>?_)<;>simp only [pL] at g1
  ·repeat refine so rfl ?_
   refine O_cA [1] (hfin _ hf1) ?_
   rintro r cs' ⟨rfl,rfl⟩
   repeat refine so rfl ?_
   cases hv:finB l ks (l.getD i default) with
   | true =>
    refine C_true rfl rfl ?_
    repeat (first|refine sc rfl ?_|refine so rfl ?_)
    refine ⟨by omega,?_⟩
    rw [Int.toNat_natCast]
    refine O_Xn (X_storeP 0 (writes_slO (x:=B true) (by rw [List.length_map];omega)) rfl rfl rfl rfl rfl rfl rfl) ?_
    have hset:(ks.map B).set (i*1) (B true)=(ks.set i true).map B:=by rw [Nat.mul_one,List.map_set]
    rw [hset]
    repeat (first|refine sc rfl ?_|refine so rfl ?_)
    rw [hst,g1,hv] at hat
    simp only [Bool.not_false,Bool.and_self,if_true] at hat
    rw [hat] at hF
    have hcs:=count_set (ks:=ks) (i:=i) (by omega) g1
    refine ⟨ks.set i true,⟨by rw [List.length_set];exact hks,n,by omega,hF⟩,hcs,Le.pick [0] ⟨rfl,rfl,rfl,trivial⟩ rfl⟩
   | false =>
    refine C_false rfl rfl ?_
    repeat (first|refine sc rfl ?_|refine so rfl ?_)
    rw [w64 (x:=(i:Int)+1) (by omega) (by omega)]
    refine ⟨i+1,⟨hil,by rw [hat,hst,hv,Bool.and_false];rfl⟩,by omega,Le.pick [0] ⟨rfl,rfl,rfl,rfl,rfl,rfl,trivial⟩ rfl⟩
  ·repeat refine so rfl ?_
   refine C_false rfl rfl ?_
   repeat (first|refine sc rfl ?_|refine so rfl ?_)
   rw [w64 (x:=(i:Int)+1) (by omega) (by omega)]
   refine ⟨i+1,⟨hil,by rw [hat,hst,g1];rfl⟩,by omega,Le.pick [1] ⟨rfl,rfl,rfl,rfl,rfl,rfl,trivial⟩ rfl⟩
 ·refine C_le _ (Le.frSlO 0 (m:=ks.length) (fun i=>BOLc (ks.getD i default)) rfl (by simp) (by decide) (fun i hi=>?_)) ?_
  ·rw [Nat.mul_one,List.drop_eq_getElem_cons (by simpa using hi)]
   simp [List.getD_eq_getElem?_getD,hi]
  refine C_le _ (Le.slotA 0 4 rfl rfl) ?_
  repeat (first|refine sc rfl ?_|refine so rfl ?_)
  have hi':i=l.length:=by omega
  rw [hi',Nat.sub_self] at hat
  rw [hat] at hF
  exact ⟨_,rfl,rfl,by rw [← hF];rfl⟩
end Go.Proofs

namespace Go.Proofs
open Go.Sy Go.Lib

def WellL (l:List Dcl):Prop:=∀ i,i<l.length→DclOK l i (l.getD i default)

def FinL (l:List Dcl):Prop:=∀ i,i<l.length→(finF l (l.length+1) (List.replicate l.length false)).getD i false=true

theorem Check_c (l:List Dcl) (hl:Fewl l):FnP Tryz.prog 32 [SL 5 Dcl.c l] (fun r=>∃ f:Flt,r=.agg (Flt.c f)∧(f.err=0↔(WellL l∧FinL l))∧(f.err=0→f.fat=0)):=by
 refine fnP Tryz.func32 fun X=>?_
 have hO:=Of_w l hl.1
 have h1000:=hl.1
 repeat (first|refine sc rfl ?_|refine so rfl ?_)
 refine O_cP hO fun r hr=>?_
 subst hr
 repeat (first|refine sc rfl ?_|refine so rfl ?_)
 refine C_le _ (Le.freezebox 3 rfl rfl rfl) ?_
 refine C_loop (fun i:Nat=>⟨[(0,SL 5 Dcl.c l),(2,.bp 2 0),(3,chkV l),(14,SL 5 Dcl.c l),(15,I64 (l.length:Nat)),(16,I64 (i:Nat))],[.box 2 62 [I64 0,I64 0]]⟩) (fun i=>i≤l.length∧∀ j,j<i→DclOK l j (l.getD j default)) (fun i=>l.length-i) 0 ⟨Nat.zero_le _,fun j hj=>absurd hj (Nat.not_lt_zero _)⟩ (Le.pick [0] ⟨rfl,rfl,rfl,rfl,rfl,rfl,trivial⟩ rfl) ?_
 rintro i ⟨hi,hall⟩
 repeat (first|refine sc rfl ?_|refine so rfl ?_)
 refine C_if rfl (fun m1=>?_) (fun m1=>?_)<;>simp only [pL] at m1
 ·have hil:i<l.length:=by omega
  obtain ⟨hf1,hf2⟩:=hl.2 i hil
  have hD:=decl_c l i hil hf1 hf2
  repeat (first|refine sc rfl ?_|refine so rfl ?_)
  refine ⟨by omega,?_⟩
  rw [Int.toNat_natCast]
  repeat (first|refine sc rfl ?_|refine so rfl ?_)
  refine O_cP hD fun r hr=>?_
  obtain ⟨e,rfl,he⟩:=hr
  repeat (first|refine sc rfl ?_|refine so rfl ?_)
  refine C_if rfl (fun m2=>?_) (fun m2=>?_)<;>simp only [pL] at m2
  ·repeat (first|refine sc rfl ?_|refine so rfl ?_)
   exact ⟨_,rfl,rfl,⟨e,(l.getD i default).fat⟩,rfl,⟨fun h=>absurd h m2,fun h=>absurd (he.2 (h.1 i hil)) m2⟩,fun h=>absurd h m2⟩
  ·repeat (first|refine sc rfl ?_|refine so rfl ?_)
   rw [w64 (x:=(i:Int)+1) (by omega) (by omega)]
   refine ⟨i+1,⟨hil,fun j hj=>?_⟩,by omega,Le.sub [2] ⟨rfl,rfl,rfl,rfl,rfl,rfl,trivial⟩ rfl⟩
   rcases Nat.lt_or_ge j i with h|h
   ·exact hall j h
   ·obtain rfl:j=i:=by omega
    exact he.1 m2
 ·obtain rfl:i=l.length:=by omega
  repeat (first|refine sc rfl ?_|refine so rfl ?_)
  refine O_cP (Finite_c l hl) fun r hr=>?_
  subst hr
  have hks:(finF l (l.length+1) (List.replicate l.length false)).length=l.length:=by rw [finF_len];simp
  generalize hksd:finF l (l.length+1) (List.replicate l.length false)=ks at *
  repeat (first|refine sc rfl ?_|refine so rfl ?_)
  refine C_loop (fun i:Nat=>⟨[(0,SL 5 Dcl.c l),(2,.bp 2 0),(32,SL 1 BOLc ks),(33,I64 (ks.length:Nat)),(34,I64 (i:Nat))],[.box 2 62 [I64 0,I64 0]]⟩) (fun i=>i≤ks.length∧∀ j,j<i→ks.getD j false=true) (fun i=>ks.length-i) 0 ⟨Nat.zero_le _,fun j hj=>absurd hj (Nat.not_lt_zero _)⟩ (Le.sub [2] ⟨rfl,rfl,rfl,rfl,rfl,trivial⟩ rfl) ?_
  rintro i ⟨hi2,hall2⟩
  repeat (first|refine sc rfl ?_|refine so rfl ?_)
  refine C_if rfl (fun m3=>?_) (fun m3=>?_)<;>simp only [pL] at m3
  ·repeat (first|refine sc rfl ?_|refine so rfl ?_)
   refine ⟨by omega,?_⟩
   rw [Int.toNat_natCast]
   repeat (first|refine sc rfl ?_|refine so rfl ?_)
   refine C_if rfl (fun m2=>?_) (fun m2=>?_)<;>simp only [pL] at m2
   ·repeat (first|refine sc rfl ?_|refine so rfl ?_)
    refine ⟨by omega,?_⟩
    rw [Int.toNat_natCast]
    repeat (first|refine sc rfl ?_|refine so rfl ?_)
    exact ⟨_,rfl,rfl,⟨10,(l.getD i default).fat⟩,rfl,⟨fun h=>absurd (show (10:Int)=0 from h) (by decide),fun h=>by exfalso;have h3:=h.2 i (by omega);rw [hksd] at h3;rw [show ks.getD i default=ks.getD i false from rfl,h3] at m2;cases m2⟩,fun h=>absurd (show (10:Int)=0 from h) (by decide)⟩
   ·repeat (first|refine sc rfl ?_|refine so rfl ?_)
    rw [w64 (x:=(i:Int)+1) (by omega) (by omega)]
    refine ⟨i+1,⟨by omega,fun j hj=>?_⟩,by omega,Le.sub [2] ⟨rfl,rfl,rfl,rfl,rfl,trivial⟩ rfl⟩
    rcases Nat.lt_or_ge j i with h|h
    ·exact hall2 j h
    ·obtain rfl:j=i:=by omega
     exact m2
  ·repeat (first|refine sc rfl ?_|refine so rfl ?_)
   exact ⟨_,rfl,rfl,⟨0,0⟩,rfl,⟨fun _=>⟨hall,fun j hj=>by rw [hksd];exact hall2 j (by omega)⟩,fun _=>rfl⟩,fun _=>rfl⟩
end Go.Proofs

namespace Go.Proofs
open Go.Sy Go.Lib

inductive FewT:Ty→Prop
 | mk {t:Ty}:t.of.length≤1000→(∀ i,i<t.of.length→FewT (t.of.getD i default))→FewT t

theorem own_c:∀ (n:Nat) (t:Ty),SizeOf.sizeOf t≤n→FewT t→FnP Tryz.prog 54 [.agg (Ty.c t)] (·=.agg (Ty.c t))
 | 0,t,h,_=>by cases t;simp at h
 | n+1,t,hn,⟨hlen,hsub⟩=>by
  refine fnP Tryz.func54 fun X=>?_
  have hrec:∀ i,i<t.of.length→FnP Tryz.prog 54 [.agg (Ty.c (t.of.getD i default))] (·=.agg (Ty.c (t.of.getD i default))):=fun i hi=>own_c n _ (by have:=of_lt hi;omega) (hsub i hi)
  repeat (first|refine sc rfl ?_|refine so rfl ?_)
  refine C_absb 3 rfl rfl rfl (fun b3=>?_)
  refine C_le _ (Le.addVec 58 3 (fun i=>Ty.c (t.of.getD i default))) ?_
  refine C_loop (fun q:Nat×Value=>⟨[(2,.bp 2 0),(3,PT b3 0),(12,SL 3 Ty.c t.of),(13,I64 (t.of.length:Nat)),(14,I64 (q.1:Nat))],[.box 2 58 [I64 0,.s [],.v (.slice none 0 0)],.abs (boxA b3 58 [I64 t.kind,.s t.name,.v q.2]),.abs (vecA q.2 58 3 q.1 (fun i=>Ty.c (t.of.getD i default)))]⟩)
   (fun q=>q.1≤t.of.length) (fun q=>t.of.length-q.1) (0,.slice none 0 0) (Nat.zero_le _) ((Le.one 12 (SL 3 Ty.c t.of) rfl (.row (Ty.rows_eq _))).trans (Le.pick [2,1,0] ⟨rfl,rfl,rfl,rfl,rfl,trivial⟩ rfl)) ?_
  rintro ⟨k,h⟩ hk
  simp only [] at hk
  repeat (first|refine sc rfl ?_|refine so rfl ?_)
  refine C_if rfl (fun m1=>?_) (fun m1=>?_)<;>simp only [pL] at m1
  ·have hkl:k<t.of.length:=by omega
   repeat (first|refine sc rfl ?_|refine so rfl ?_)
   refine ⟨by omega,?_⟩
   rw [Int.toNat_natCast]
   repeat refine so rfl ?_
   refine C_drawU 20 5 rfl (by kernel_rfl) (by kernel_rfl) (by kernel_rfl) ?_
   repeat refine sd rfl ?_
   refine D_X (.v h) (X_loadP 2 (reads_box 2) rfl rfl rfl rfl rfl rfl) ?_
   repeat refine sd rfl ?_
   refine D_call (hrec k hkl) rfl rfl rfl rfl ?_
   repeat (first|refine sd rfl ?_|refine sds rfl ?_)
   refine O_appendV 3 (m2:=1) (m3:=k+1) (row3:=fun i=>Ty.c (t.of.getD i default)) rfl rfl rfl rfl rfl rfl (fun i hi=>?_) rfl (by show (k+1)*48≤140737488355328;omega) (by show k+1≤maxLen;simp only [maxLen];omega) rfl (fun i hi=>?_) (fun v' hv'=>?_)
   ·show (chunkRow 3 (Ty.c (t.of.getD k default)) i).length=3
    have h0:i=0:=by have:i<1:=hi;omega
    subst h0;rfl
   ·unfold appRow
    by_cases hik:i<k
    ·rw [if_pos hik]
    ·rw [if_neg hik]
     obtain rfl:i=k:=by omega
     rw [Nat.sub_self];rfl
   ·obtain ⟨g9,cc9,rfl⟩:=hv'.resolve_left (fun h=>by omega)
    repeat refine so rfl ?_
    refine O_Xn (X_storeP 3 (writes_box (by show 2<3;decide)) rfl rfl rfl rfl rfl rfl rfl) ?_
    repeat (first|refine sc rfl ?_|refine so rfl ?_)
    rw [w64 (x:=(k:Int)+1) (by omega) (by omega)]
    refine ⟨(k+1,HD g9 (k+1) cc9),by simp only [];omega,by simp only [];omega,Le.pick [3,0,0] ⟨rfl,rfl,rfl,rfl,rfl,trivial⟩ rfl⟩
  ·obtain rfl:k=t.of.length:=by omega
   refine C_le _ (Le.frVec 2 (Ty.rows t.of) rfl (fun i hi=>Ty.rows_eq _ _ hi)) ?_
   refine C_le _ (Le.cellA 2 0 2 rfl rfl) ?_
   repeat refine sc rfl ?_
   refine O_loadP 0 (reads_box 0) rfl rfl rfl rfl rfl rfl ?_
   repeat (first|refine sc rfl ?_|refine so rfl ?_)
   exact ⟨_,rfl,rfl,rfl⟩
end Go.Proofs

namespace Go.Proofs
open Go.Sy Go.Lib

def FewF (F:List Fld):Prop:=F.length≤1000∧∀ i,i<F.length→FewT (F.getD i default).ty

theorem fields_c (F:List Fld) (hF:FewF F):FnP Tryz.prog 50 [SL 5 Fld.c F] (·=SL 5 Fld.c F):=by
 refine fnP Tryz.func50 fun X=>?_
 have hlen:=hF.1
 repeat (first|refine sc rfl ?_|refine so rfl ?_)
 refine C_le _ (Le.addVec 60 5 (fun i=>Fld.c (F.getD i default))) ?_
 refine C_loop (fun q:Nat×Value=>⟨[(3,.v q.2),(6,SL 5 Fld.c F),(7,I64 (F.length:Nat)),(8,I64 (q.1:Nat))],[.abs (vecA q.2 60 5 q.1 (fun i=>Fld.c (F.getD i default)))]⟩)
  (fun q=>q.1≤F.length) (fun q=>F.length-q.1) (0,.slice none 0 0) (Nat.zero_le _) (Le.pick [0] ⟨rfl,rfl,rfl,rfl,trivial⟩ rfl) ?_
 rintro ⟨k,h⟩ hk
 simp only [] at hk
 repeat (first|refine sc rfl ?_|refine so rfl ?_)
 refine C_if rfl (fun m1=>?_) (fun m1=>?_)<;>simp only [pL] at m1
 ·have hkl:k<F.length:=by omega
  repeat (first|refine sc rfl ?_|refine so rfl ?_)
  refine ⟨by omega,?_⟩
  rw [Int.toNat_natCast]
  repeat (first|refine sc rfl ?_|refine so rfl ?_)
  refine O_cP (own_c _ (F.getD k default).ty (Nat.le_refl _) (hF.2 k hkl)) fun r hr=>?_
  subst hr
  repeat first|refine sc rfl ?_|refine so rfl ?_|refine sb rfl ?_
  refine O_le _ (Le.freeze 18 rfl rfl) ?_
  refine O_appendV 1 (m2:=1) (m3:=k+1) (row3:=fun i=>Fld.c (F.getD i default)) rfl rfl rfl rfl rfl rfl (fun i hi=>?_) rfl (by show (k+1)*72≤140737488355328;omega) (by show k+1≤maxLen;simp only [maxLen];omega) rfl (fun i hi=>?_) (fun v' hv'=>?_)
  ·show (chunkRow 5 (Fld.c (F.getD k default)) i).length=5
   have h0:i=0:=by have:i<1:=hi;omega
   subst h0;rfl
  ·unfold appRow
   by_cases hik:i<k
   ·rw [if_pos hik]
   ·rw [if_neg hik]
    obtain rfl:i=k:=by omega
    rw [Nat.sub_self];rfl
  ·obtain ⟨g9,cc9,rfl⟩:=hv'.resolve_left (fun h=>by omega)
   repeat (first|refine sc rfl ?_|refine so rfl ?_)
   rw [w64 (x:=(k:Int)+1) (by omega) (by omega)]
   refine ⟨(k+1,HD g9 (k+1) cc9),by simp only [];omega,by simp only [];omega,Le.pick [0] ⟨rfl,rfl,rfl,rfl,trivial⟩ rfl⟩
 ·obtain rfl:k=F.length:=by omega
  refine C_le _ (Le.frVec 0 (fun i=>Fld.c (F.getD i default)) rfl (fun i hi=>rfl)) ?_
  refine C_le _ (Le.slotA 0 3 rfl rfl) ?_
  repeat (first|refine sc rfl ?_|refine so rfl ?_)
  exact ⟨_,rfl,rfl,rfl⟩
end Go.Proofs

namespace Go.Proofs
open Go.Sy Go.Lib

theorem Clone_M (F:List Mth) (hF:F.length≤1000):FnP Tryz.prog 63 [SL 5 Mth.c F] (·=SL 5 Mth.c F):=by
 refine fnP Tryz.func63 fun X=>?_
 repeat (first|refine sc rfl ?_|refine so rfl ?_)
 refine O_nilsl Tryz.underlying51 rfl rfl rfl (fun b hb=>?_)
 repeat refine so rfl ?_
 cases b with
 | true =>
  have h0:F=[]:=List.length_eq_zero_iff.1 (hb rfl)
  subst h0
  refine C_true rfl rfl ?_
  iterate 4 (first|refine sc rfl ?_|refine so rfl ?_)
  refine C_le _ (Le.conv 2 (y:=SL 5 Mth.c []) rfl (fun e v h=>by simp only [Rep] at h ⊢;exact repI_nil (by simpa only [RepI] using h))) ?_
  repeat refine sc rfl ?_
  exact ⟨_,rfl,rfl,rfl⟩
 | false =>
  refine C_false rfl rfl ?_
  repeat refine sc rfl ?_
  refine O_empty (fun i=>Mth.c (F.getD i default)) rfl rfl rfl rfl rfl ?_
  repeat refine so rfl ?_
  refine O_append (m2:=F.length) (m3:=F.length) (row3:=fun i=>Mth.c (F.getD i default)) (s2:=[(0,SL 5 Mth.c F)]) rfl rfl rfl rfl rfl (src_sl rfl (fun i _=>rfl)) rfl ⟨rfl,trivial⟩ rfl rfl (by show (0+F.length)*64≤140737488355328;omega) (by show 0+F.length≤maxLen;simp only [maxLen];omega) (by omega) (fun i hi=>?_) ?_
  ·unfold appRow
   rw [if_neg (Nat.not_lt_zero _),Nat.sub_zero]
  ·refine O_le _ (Le.freeze 7 rfl rfl) ?_
   repeat (first|refine sc rfl ?_|refine so rfl ?_)
   exact ⟨_,rfl,rfl,rfl⟩

structure FewD (d:Dcl):Prop where
 f:FewF d.fields
 m:d.methods.length≤1000
def FewL (l:List Dcl):Prop:=l.length≤1000∧∀ i,i<l.length→FewD (l.getD i default)

theorem decls_c (l:List Dcl) (hl:FewL l):FnP Tryz.prog 33 [SL 5 Dcl.c l] (·=SL 5 Dcl.c l):=by
 refine fnP Tryz.func33 fun X=>?_
 have hlen:=hl.1
 repeat (first|refine sc rfl ?_|refine so rfl ?_)
 refine C_le _ (Le.addVec 53 5 (fun i=>Dcl.c (l.getD i default))) ?_
 refine C_loop (fun q:Nat×Value=>⟨[(3,.v q.2),(6,SL 5 Dcl.c l),(7,I64 (l.length:Nat)),(8,I64 (q.1:Nat))],[.abs (vecA q.2 53 5 q.1 (fun i=>Dcl.c (l.getD i default)))]⟩)
  (fun q=>q.1≤l.length) (fun q=>l.length-q.1) (0,.slice none 0 0) (Nat.zero_le _) (Le.pick [0] ⟨rfl,rfl,rfl,rfl,trivial⟩ rfl) ?_
 rintro ⟨k,h⟩ hk
 simp only [] at hk
 repeat (first|refine sc rfl ?_|refine so rfl ?_)
 refine C_if rfl (fun m1=>?_) (fun m1=>?_)<;>simp only [pL] at m1
 ·have hkl:k<l.length:=by omega
  repeat (first|refine sc rfl ?_|refine so rfl ?_)
  refine ⟨by omega,?_⟩
  rw [Int.toNat_natCast]
  repeat (first|refine sc rfl ?_|refine so rfl ?_)
  refine O_cP (fields_c (l.getD k default).fields (hl.2 k hkl).f) fun r hr=>?_
  subst hr
  repeat (first|refine sc rfl ?_|refine so rfl ?_)
  refine O_cP (Clone_M (l.getD k default).methods (hl.2 k hkl).m) fun r hr=>?_
  subst hr
  repeat first|refine sc rfl ?_|refine so rfl ?_|refine sb rfl ?_
  refine O_le _ (Le.freeze 22 rfl rfl) ?_
  refine O_appendV 1 (m2:=1) (m3:=k+1) (row3:=fun i=>Dcl.c (l.getD i default)) rfl rfl rfl rfl rfl rfl (fun i hi=>?_) rfl (by show (k+1)*80≤140737488355328;omega) (by show k+1≤maxLen;simp only [maxLen];omega) rfl (fun i hi=>?_) (fun v' hv'=>?_)
  ·show (chunkRow 5 (Dcl.c (l.getD k default)) i).length=5
   have h0:i=0:=by have:i<1:=hi;omega
   subst h0;rfl
  ·unfold appRow
   by_cases hik:i<k
   ·rw [if_pos hik]
   ·rw [if_neg hik]
    obtain rfl:i=k:=by omega
    rw [Nat.sub_self];rfl
  ·obtain ⟨g9,cc9,rfl⟩:=hv'.resolve_left (fun h=>by omega)
   repeat (first|refine sc rfl ?_|refine so rfl ?_)
   rw [w64 (x:=(k:Int)+1) (by omega) (by omega)]
   refine ⟨(k+1,HD g9 (k+1) cc9),by simp only [];omega,by simp only [];omega,Le.pick [0] ⟨rfl,rfl,rfl,rfl,trivial⟩ rfl⟩
 ·obtain rfl:k=l.length:=by omega
  refine C_le _ (Le.frVec 0 (fun i=>Dcl.c (l.getD i default)) rfl (fun i hi=>rfl)) ?_
  refine C_le _ (Le.slotA 0 3 rfl rfl) ?_
  repeat (first|refine sc rfl ?_|refine so rfl ?_)
  exact ⟨_,rfl,rfl,rfl⟩

theorem FewL.toFew {l:List Dcl} (h:FewL l):Fewl l:=⟨h.1,fun i hi=>⟨(h.2 i hi).f.1,(h.2 i hi).m⟩⟩

theorem Of_A (l:List Dcl) (hl:FewL l):FnA Tryz.prog 19 [SL 5 Dcl.c l] [] (fun r cs'=>(∃ f:Flt,r=.tup [.v (.pointer none),.agg (Flt.c f)]∧¬(WellL l∧FinL l)∧cs'=[]) ∨
  (∃ b,r=.tup [PT b 0,.agg (Flt.c ⟨0,0⟩)]∧(WellL l∧FinL l)∧cs'=[boxA b 105 [SL 5 Dcl.c l,.v (.int .u32 0),.v (.int .i32 0),.v (.int .u32 0),.v (.pointer none),.v (.map none)]])):=by
 refine fnA Tryz.func19 fun X=>?_
 repeat (first|refine sc rfl ?_|refine so rfl ?_)
 refine O_cP (Check_c l hl.toFew) fun r hr=>?_
 obtain ⟨f,rfl,hf,hf2⟩:=hr
 repeat (first|refine sc rfl ?_|refine so rfl ?_)
 refine C_if rfl (fun m1=>?_) (fun m1=>?_)<;>simp only [pL] at m1
 ·repeat refine sc rfl ?_
  refine C_drawU 20 2 rfl (by kernel_rfl) (by kernel_rfl) (by kernel_rfl) ?_
  repeat refine sd rfl ?_
  repeat (first|refine sc rfl ?_|refine so rfl ?_)
  exact ⟨_,[],_,rfl,.refl _,rfl,.inl ⟨f,rfl,fun h=>m1 (hf.2 h),rfl⟩⟩
 ·repeat (first|refine sc rfl ?_|refine so rfl ?_)
  refine O_cP (decls_c l hl) fun r hr=>?_
  subst hr
  iterate 6 refine so rfl ?_
  refine C_absb 2 rfl rfl rfl (fun b=>?_)
  repeat refine sc rfl ?_
  exact ⟨_,[_],_,rfl,.refl _,rfl,.inr ⟨b,rfl,hf.1 m1,rfl⟩⟩
end Go.Proofs

namespace Go.Proofs
open Go.Sy Go.Lib

noncomputable def IsNaN_F (x:Int):Option (Bool) :=
 some (x != x)
theorem IsNaN_w (x:Int) (r:Bool) (h:IsNaN_F x=some r):FnP Tryz.prog 91 [I64 x] (·=B r):=by
 unfold IsNaN_F at h
 refine fnP Tryz.func91 fun X=>?_
 iterate 2 refine sc rfl ?_
 refine so rfl ?_
 refine so rfl ?_
 iterate 2 refine sc rfl ?_
 iterate 4 refine so rfl ?_
 refine so rfl ?_
 refine sc rfl ?_
 obtain rfl:=osi h
 exact ⟨_,rfl,rfl,rfl⟩
noncomputable def Compare_F (x:Int) (y:Int):Option (Int) :=
 Option.bind (IsNaN_F x) (fun r1=>Option.bind (IsNaN_F y) (fun r4=>cond r1 (cond r4 (some 0) (some (-1))) (cond r4 (some 1) (cond (decide (x<y)) (some (-1)) (cond (decide (y<x)) (some 1) (some 0))))))
theorem Compare_w (x:Int) (y:Int) (r:Int) (h:Compare_F x y=some r):FnP Tryz.prog 53 [I64 x,I64 y] (·=I64 r):=by
 unfold Compare_F at h
 refine fnP Tryz.func53 fun X=>?_
 iterate 2 refine sc rfl ?_
 refine so rfl ?_
 refine so rfl ?_
 iterate 2 refine sc rfl ?_
 refine so rfl ?_
 obtain ⟨r1,hr2,h⟩:=bT h
 refine O_cP (IsNaN_w _ _ hr2) fun q3 hq3=>?_
 subst hq3
 refine so rfl ?_
 refine so rfl ?_
 iterate 2 refine sc rfl ?_
 refine so rfl ?_
 obtain ⟨r4,hr5,h⟩:=bT h
 refine O_cP (IsNaN_w _ _ hr5) fun q6 hq6=>?_
 subst hq6
 refine so rfl ?_
 refine so rfl ?_
 iterate 3 refine sc rfl ?_
 refine so rfl ?_
 refine so rfl ?_
 refine C_if rfl (fun hb7=>?_) (fun hb7=>?_)
 ·replace h:=cT hb7 h
  iterate 3 refine sc rfl ?_
  refine so rfl ?_
  refine so rfl ?_
  refine C_if rfl (fun hb8=>?_) (fun hb8=>?_)
  ·replace h:=cT hb8 h
   iterate 2 refine sc rfl ?_
   refine so rfl ?_
   refine so rfl ?_
   refine sc rfl ?_
   obtain rfl:=osi h
   exact ⟨_,rfl,rfl,rfl⟩
  ·replace h:=cF hb8 h
   iterate 3 refine sc rfl ?_
   refine so rfl ?_
   refine so rfl ?_
   refine sc rfl ?_
   obtain rfl:=osi h
   exact ⟨_,rfl,rfl,rfl⟩
 ·replace h:=cF hb7 h
  iterate 4 refine sc rfl ?_
  refine so rfl ?_
  refine so rfl ?_
  refine C_if rfl (fun hb9=>?_) (fun hb9=>?_)
  ·replace h:=cT hb9 h
   iterate 2 refine sc rfl ?_
   refine so rfl ?_
   refine so rfl ?_
   refine sc rfl ?_
   obtain rfl:=osi h
   exact ⟨_,rfl,rfl,rfl⟩
  ·replace h:=cF hb9 h
   iterate 4 refine sc rfl ?_
   iterate 3 refine so rfl ?_
   refine so rfl ?_
   refine C_if rfl (fun hb10=>?_) (fun hb10=>?_)
   ·replace h:=cT hb10 h
    iterate 2 refine sc rfl ?_
    refine so rfl ?_
    refine so rfl ?_
    refine sc rfl ?_
    obtain rfl:=osi h
    exact ⟨_,rfl,rfl,rfl⟩
   ·replace h:=cF hb10 h
    iterate 4 refine sc rfl ?_
    iterate 3 refine so rfl ?_
    refine so rfl ?_
    refine C_if rfl (fun hb11=>?_) (fun hb11=>?_)
    ·replace h:=cT hb11 h
     iterate 2 refine sc rfl ?_
     refine so rfl ?_
     refine so rfl ?_
     refine sc rfl ?_
     obtain rfl:=osi h
     exact ⟨_,rfl,rfl,rfl⟩
    ·replace h:=cF hb11 h
     iterate 3 refine sc rfl ?_
     refine so rfl ?_
     refine so rfl ?_
     refine sc rfl ?_
     obtain rfl:=osi h
     exact ⟨_,rfl,rfl,rfl⟩
noncomputable def CmpF_F (a:Fld) (b:Fld):Option (Int) :=
 Option.bind (Compare_F a.tag b.tag) (fun r1=>some r1)
theorem CmpF_w (a:Fld) (b:Fld) (r:Int) (h:CmpF_F a b=some r):FnP Tryz.prog 74 [.agg (Fld.c a),.agg (Fld.c b)] (·=I64 r):=by
 unfold CmpF_F at h
 refine fnP Tryz.func74 fun X=>?_
 iterate 2 refine sc rfl ?_
 iterate 3 refine so rfl ?_
 refine so rfl ?_
 iterate 2 refine sc rfl ?_
 iterate 4 refine so rfl ?_
 obtain ⟨r1,hr2,h⟩:=bT h
 refine O_cP (Compare_w _ _ _ hr2) fun q3 hq3=>?_
 subst hq3
 refine so rfl ?_
 refine so rfl ?_
 refine sc rfl ?_
 obtain rfl:=osi h
 exact ⟨_,rfl,rfl,rfl⟩
end Go.Proofs

namespace Go.Proofs
open Go.Sy Go.Lib

def cmpI (a b:Int):Int:=if a<b then -1 else if b<a then 1 else 0
theorem CmpF_c (x y:Fld):FnP Tryz.prog 74 [.agg (Fld.c x),.agg (Fld.c y)] (·=I64 (cmpI x.tag y.tag)):=by
 refine CmpF_w x y _ ?_
 unfold CmpF_F Compare_F IsNaN_F cmpI
 by_cases h1:x.tag<y.tag
 ·simp [h1]
 ·by_cases h2:y.tag<x.tag
  ·simp [h1,h2]
  ·simp [h1,h2]
theorem cmp_lt (a b:Int):decide (cmpI a b<0)=decide (a<b):=by
 unfold cmpI
 by_cases h1:a<b
 ·simp [h1]
 ·by_cases h2:b<a
  ·simp [h1,h2]
  ·simp [h1,h2]

abbrev cmpV:AV:=.v (.func (.func 74) #[] #[])
abbrev arA (g n cc:Nat) (f:Nat→Fld):Abs:=vecA (HD g n cc) 60 5 n (fun i=>Fld.c (f i))

def swp {α:Type} (f:Nat→α) (u v:Nat):Nat→α:=fun i=>if i=v then f u else if i=u then f v else f i
def swr {α:Type} (f:Nat→α) (a b n:Nat):Nat→α:=fun i=>if a≤i∧i<a+n then f (b+(i-a)) else if b≤i∧i<b+n then f (a+(i-b)) else f i

theorem swr_succ {α:Type} (f:Nat→α) (a b k:Nat) (h:a+k<b∨b+k<a):∀ i,swp (swr f a b k) (a+k) (b+k) i=swr f a b (k+1) i:=fun i=>by
 unfold swp swr
 repeat' split
 all_goals first
  | rfl
  | (congr 1;omega)
  | (exfalso;omega)

def PX:Pl:=⟨[[],[],[],[],[],[],[],[],[],[],[],[],[],[],[],[],[],[],[],[],[],[13,19],[],[13,19,21]],[21,23],[],[]⟩

theorem swapRange_A (g n cc:Nat) (f:Nat→Fld) (a b k:Nat) (hd:a+k≤b) (hb:b+k≤n) (hn:n≤1000) :
  FnA Tryz.prog 177 [.v (HD g n cc),I64 (a:Nat),I64 (b:Nat),I64 (k:Nat),cmpV] [arA g n cc f] (fun r cs'=>r=.tup []∧cs'=[arA g n cc (swr f a b k)]):=by
 refine fnA Tryz.func177 fun X=>?_
 refine C_know 0 (n≤cc) rfl (fun G w hok _=>?_) (fun hmc=>?_)
 ·obtain ⟨xs,h1,_⟩:=hok
  rcases h1.2 with ⟨h2,_⟩|⟨g',cap,cur,h2,_,_,h3,_⟩
  ·cases h2
  ·simp only [HD,Value.slice.injEq] at h2
   rw [h2.2.2];exact h3
 repeat (first|refine sc rfl ?_|refine so rfl ?_)
 refine C_loop (fun i:Nat=>⟨[(0,.v (HD g n cc)),(1,I64 (a:Nat)),(2,I64 (b:Nat)),(3,I64 (k:Nat)),(10,I64 (i:Nat))],[.abs (arA g n cc (swr f a b i))]⟩) (fun i=>i≤k) (fun i=>k-i) 0 (Nat.zero_le _) ?_ ?_
 ·have:swr f a b 0=f:=by funext i;unfold swr;rw [if_neg (by omega),if_neg (by omega)]
  rw [this]
  exact Le.pick [0] ⟨rfl,rfl,rfl,rfl,rfl,trivial⟩ rfl
 intro i hi
 repeat (first|refine sc rfl ?_|refine so rfl ?_)
 refine C_if rfl (fun m1=>?_) (fun m1=>?_)<;>simp only [pL] at m1
 ·have hik:i<k:=by omega
  repeat refine sc rfl ?_
  refine C_drawX PX (fun ph=>match ph with
   | 0=>[.abs (arA g n cc (swr f a b i))]
   | 1=>[.abs (arA g n cc (fun j=>if j=a+i then swr f a b i (b+i) else swr f a b i j))]
   | _=>[.abs (arA g n cc (swr f a b (i+1)))]) rfl (by kernel_rfl) (by decide) rfl ?_
  have ea:((a:Int)+(i:Int)).toNat=a+i:=by omega
  have eb:((b:Int)+(i:Int)).toNat=b+i:=by omega
  refine sx rfl ⟨trivial,?_⟩
  refine sx rfl ⟨trivial,?_⟩
  refine sx rfl ⟨trivial,?_⟩
  refine sx rfl ⟨trivial,?_⟩
  rw [w64 (x:=(a:Int)+(i:Int)) (by omega) (by omega)]
  refine sx rfl ⟨trivial,?_⟩
  refine sx rfl ⟨trivial,?_⟩
  refine sx rfl ⟨trivial,?_⟩
  refine sx rfl ⟨trivial,?_⟩
  rw [w64 (x:=(b:Int)+(i:Int)) (by omega) (by omega)]
  refine sx rfl ⟨trivial,?_⟩
  refine sx rfl ⟨trivial,?_⟩
  refine sx rfl ⟨trivial,?_⟩
  refine sx rfl ⟨trivial,?_⟩
  rw [w64 (x:=(b:Int)+(i:Int)) (by omega) (by omega)]
  refine sx rfl ⟨by omega,?_⟩
  rw [eb]
  refine SXr (.agg (Fld.c (swr f a b i (b+i)))) 0 rfl rfl rfl rfl (X_loadP 0 (reads_vec (q:=b+i) (j:=0) (by omega) (by omega)) rfl rfl rfl rfl rfl rfl) ?_
  refine sx rfl ⟨trivial,?_⟩
  refine sx rfl ⟨trivial,?_⟩
  refine sx rfl ⟨trivial,?_⟩
  refine sx rfl ⟨trivial,?_⟩
  rw [w64 (x:=(a:Int)+(i:Int)) (by omega) (by omega)]
  refine sx rfl ⟨by omega,?_⟩
  rw [ea]
  refine SXr (.agg (Fld.c (swr f a b i (a+i)))) 0 rfl rfl rfl rfl (X_loadP 0 (reads_vec (q:=a+i) (j:=0) (by omega) (by omega)) rfl rfl rfl rfl rfl rfl) ?_
  refine sx rfl ⟨by omega,?_⟩
  rw [ea]
  refine SXw .bad 0 rfl rfl rfl rfl (X_storeV 0 (a+i) (row':=fun j=>Fld.c (if j=a+i then swr f a b i (b+i) else swr f a b i j)) rfl rfl rfl (by omega) rfl rfl rfl (by omega) rfl (fun j hj=>?_)) ?_
  ·by_cases hj2:j=a+i
   ·rw [if_pos hj2,if_pos hj2]
   ·rw [if_neg hj2,if_neg hj2]
  refine sx rfl ⟨by omega,?_⟩
  rw [eb]
  refine SXw .bad 1 rfl rfl rfl rfl (X_storeV 0 (b+i) (row':=fun j=>Fld.c (swr f a b (i+1) j)) rfl rfl rfl (by omega) rfl rfl rfl (by omega) rfl (fun j hj=>?_)) ?_
  ·rw [← swr_succ f a b i (by omega) j]
   unfold swp
   by_cases hj1:j=b+i
   ·rw [if_pos hj1,if_pos hj1]
   ·rw [if_neg hj1,if_neg hj1]
  refine sx rfl ?_
  repeat (first|refine sc rfl ?_|refine so rfl ?_)
  rw [w64 (x:=(i:Int)+1) (by omega) (by omega)]
  refine ⟨i+1,hik,by omega,Le.pick [0] ⟨rfl,rfl,rfl,rfl,rfl,trivial⟩ rfl⟩
 ·obtain rfl:i=k:=by omega
  repeat refine sc rfl ?_
  exact ⟨_,[_],_,rfl,.refl _,rfl,rfl,rfl⟩
end Go.Proofs
