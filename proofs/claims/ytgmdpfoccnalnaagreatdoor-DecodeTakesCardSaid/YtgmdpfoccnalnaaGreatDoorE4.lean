/- Contracts of the library's sorting: turning round. -/
import Derived.Test.YtgmdpfoccnalnaaGreatDoorE3
import Derived.Tactics
import Derived.Tactics2
import Derived.RegionTactic
import Derived.RegionCalls
import Derived.Shelf.Small.Strs
import Derived.Shelf.Strings.Search3
import Derived.Ground.Names2Prog
import Derived.Test.YtgmdpfoccnalnaaGreatDoorProg
import Derived.Test.YtgmdpfoccnalnaaGreatDoorE2
set_option linter.unusedSimpArgs false
set_option linter.unusedVariables false
set_option maxRecDepth 100000
namespace Go.Proofs
open Go.Sy Go.Lib

def rot {α:Type} (f:Nat→α) (a m b:Nat):Nat→α:=fun i=>if a≤i∧i<a+(b-m) then f (i+(m-a)) else if a+(b-m)≤i∧i<b then f (i-(b-m)) else f i

theorem rot_gt {α:Type} (f:Nat→α) (m i j:Nat) (h:j<i) (hi:i≤m) (hj:0<j):rot (swr f (m-i) m j) (m-(i-j)) m (m+j)=rot f (m-i) m (m+j):=by
 funext x
 unfold rot swr
 repeat' split
 all_goals first
  | rfl
  | (congr 1;omega)
  | (exfalso;omega)
theorem rot_lt {α:Type} (f:Nat→α) (m i j:Nat) (h:i<j) (hi:i≤m) (hj:0<i):rot (swr f (m-i) (m+j-i) i) (m-i) m (m+(j-i))=rot f (m-i) m (m+j):=by
 funext x
 unfold rot swr
 repeat' split
 all_goals first
  | rfl
  | (congr 1;omega)
  | (exfalso;omega)
theorem rot_eq {α:Type} (f:Nat→α) (m i:Nat) (hi:i≤m):swr f (m-i) m i=rot f (m-i) m (m+i):=by
 funext x
 unfold rot swr
 repeat' split
 all_goals first
  | rfl
  | (congr 1;omega)
  | (exfalso;omega)

theorem rotate_A (g n cc:Nat) (f:Nat→Fld) (a m b:Nat) (h1:a<m) (h2:m<b) (hb:b≤n) (hn:n≤1000) :
  FnA Tryz.prog 160 [.v (HD g n cc),I64 (a:Nat),I64 (m:Nat),I64 (b:Nat),cmpV] [arA g n cc f] (fun r cs'=>r=.tup []∧cs'=[arA g n cc (rot f a m b)]):=by
 refine fnA Tryz.func160 fun X=>?_
 repeat (first|refine sc rfl ?_|refine so rfl ?_)
 rw [w64 (x:=(m:Int)-(a:Int)) (by omega) (by omega),w64 (x:=(b:Int)-(m:Int)) (by omega) (by omega)]
 refine C_loop (fun q:Nat×Nat×(Nat→Fld)=>⟨[(0,.v (HD g n cc)),(2,I64 (m:Nat)),(4,cmpV),(10,I64 (q.1:Nat)),(11,I64 (q.2.1:Nat))],[.abs (arA g n cc q.2.2)]⟩)
  (fun q=>0<q.1∧q.1≤m∧0<q.2.1∧m+q.2.1≤n∧rot q.2.2 (m-q.1) m (m+q.2.1)=rot f a m b) (fun q=>q.1+q.2.1) (m-a,b-m,f) ⟨by simp only [];omega,by simp only [];omega,by simp only [];omega,by simp only [];omega,by simp only [];rw [show m-(m-a)=a by omega,show m+(b-m)=b by omega]⟩ ?_ ?_
 ·rw [show (m:Int)-(a:Int)=((m-a:Nat):Int) by omega,show (b:Int)-(m:Int)=((b-m:Nat):Int) by omega]
  exact Le.pick [0] ⟨rfl,rfl,rfl,rfl,rfl,trivial⟩ rfl
 rintro ⟨i,j,f1⟩ ⟨hi0,him,hj0,hjn,hr⟩
 simp only [] at hi0 him hj0 hjn hr
 repeat (first|refine sc rfl ?_|refine so rfl ?_)
 refine C_if rfl (fun m1=>?_) (fun m1=>?_)<;>simp only [pL] at m1
 ·repeat (first|refine sc rfl ?_|refine so rfl ?_)
  refine C_if rfl (fun m2=>?_) (fun m2=>?_)<;>simp only [pL] at m2
  ·have hA:=swapRange_A g n cc f1 (m-i) m j (by omega) (by omega) hn
   rw [show ((m-i:Nat):Int)=(m:Int)-(i:Int) by omega] at hA
   repeat (first|refine sc rfl ?_|refine so rfl ?_)
   rw [w64 (x:=(m:Int)-(i:Int)) (by omega) (by omega)]
   repeat refine sc rfl ?_
   refine O_cA [0] hA ?_
   rintro r cs' ⟨rfl,rfl⟩
   repeat (first|refine sc rfl ?_|refine so rfl ?_)
   rw [w64 (x:=(i:Int)-(j:Int)) (by omega) (by omega),show (i:Int)-(j:Int)=((i-j:Nat):Int) by omega]
   refine ⟨(i-j,j,swr f1 (m-i) m j),⟨by simp only [];omega,by simp only [];omega,by simp only [];omega,by simp only [];omega,?_⟩,by simp only [];omega,Le.pick [0] ⟨rfl,rfl,rfl,rfl,rfl,trivial⟩ rfl⟩
   simp only []
   rw [rot_gt f1 m i j (by omega) him hj0];exact hr
  ·have hA:=swapRange_A g n cc f1 (m-i) (m+j-i) i (by omega) (by omega) hn
   rw [show ((m-i:Nat):Int)=(m:Int)-(i:Int) by omega,show ((m+j-i:Nat):Int)=(m:Int)+(j:Int)-(i:Int) by omega] at hA
   repeat (first|refine sc rfl ?_|refine so rfl ?_)
   rw [w64 (x:=(m:Int)-(i:Int)) (by omega) (by omega),w64 (x:=(m:Int)+(j:Int)) (by omega) (by omega),w64 (x:=(m:Int)+(j:Int)-(i:Int)) (by omega) (by omega)]
   repeat refine sc rfl ?_
   refine O_cA [0] hA ?_
   rintro r cs' ⟨rfl,rfl⟩
   repeat (first|refine sc rfl ?_|refine so rfl ?_)
   rw [w64 (x:=(j:Int)-(i:Int)) (by omega) (by omega),show (j:Int)-(i:Int)=((j-i:Nat):Int) by omega]
   refine ⟨(i,j-i,swr f1 (m-i) (m+j-i) i),⟨by simp only [];omega,by simp only [];omega,by simp only [];omega,by simp only [];omega,?_⟩,by simp only [];omega,Le.pick [0] ⟨rfl,rfl,rfl,rfl,rfl,trivial⟩ rfl⟩
   simp only []
   rw [rot_lt f1 m i j (by omega) him hi0];exact hr
 ·obtain rfl:i=j:=by omega
  have hA:=swapRange_A g n cc f1 (m-i) m i (by omega) (by omega) hn
  rw [show ((m-i:Nat):Int)=(m:Int)-(i:Int) by omega] at hA
  repeat (first|refine sc rfl ?_|refine so rfl ?_)
  rw [w64 (x:=(m:Int)-(i:Int)) (by omega) (by omega)]
  repeat refine sc rfl ?_
  refine O_cA [0] hA ?_
  rintro r cs' ⟨rfl,rfl⟩
  repeat refine so rfl ?_
  exact ⟨_,[_],_,rfl,.refl _,rfl,rfl,by rw [rot_eq f1 m i him,hr]⟩
end Go.Proofs

namespace Go.Proofs
open Go.Sy

def PermOn {α:Type} (a b:Nat) (f f':Nat→α):Prop :=
 ∃ p r:Nat→Nat,(∀ i,a≤i→i<b→(a≤p i∧p i<b)∧(a≤r i∧r i<b)∧p (r i)=i∧r (p i)=i∧f' i=f (p i))∧∀ i,¬(a≤i∧i<b)→f' i=f i

theorem PermOn.refl {α:Type} (a b:Nat) (f:Nat→α):PermOn a b f f:=⟨id,id,fun i h1 h2=>⟨⟨h1,h2⟩,⟨h1,h2⟩,rfl,rfl,rfl⟩,fun _ _=>rfl⟩
theorem PermOn.trans {α:Type} {a b:Nat} {f g h:Nat→α} (h1:PermOn a b f g) (h2:PermOn a b g h):PermOn a b f h:=by
 obtain ⟨p1,r1,k1,o1⟩:=h1
 obtain ⟨p2,r2,k2,o2⟩:=h2
 refine ⟨fun i=>p1 (p2 i),fun i=>r2 (r1 i),fun i ha hb=>?_,fun i hi=>by rw [o2 i hi,o1 i hi]⟩
 obtain ⟨q1,q2,q3,q4,q5⟩:=k2 i ha hb
 obtain ⟨s1,s2,s3,s4,s5⟩:=k1 (p2 i) q1.1 q1.2
 obtain ⟨t1,t2,t3,t4,t5⟩:=k1 i ha hb
 obtain ⟨u1,u2,u3,u4,u5⟩:=k2 (r1 i) t2.1 t2.2
 exact ⟨s1,u2,by show p1 (p2 (r2 (r1 i)))=i;rw [u3,t3],by show r2 (r1 (p1 (p2 i)))=i;rw [s4,q4],by rw [q5,s5]⟩
theorem PermOn.mono {α:Type} {a b a' b':Nat} {f g:Nat→α} (h:PermOn a b f g) (ha:a'≤a) (hb:b≤b'):PermOn a' b' f g:=by
 obtain ⟨p,r,k,o⟩:=h
 refine ⟨fun i=>if a≤i∧i<b then p i else i,fun i=>if a≤i∧i<b then r i else i,fun i h1 h2=>?_,fun i hi=>o i (by omega)⟩
 by_cases hc:a≤i∧i<b
 ·obtain ⟨q1,q2,q3,q4,q5⟩:=k i hc.1 hc.2
  simp only [if_pos hc,if_pos q1,if_pos q2]
  exact ⟨by omega,by omega,q3,q4,q5⟩
 ·simp only [if_neg hc]
  exact ⟨⟨h1,h2⟩,⟨h1,h2⟩,trivial,trivial,o i hc⟩
theorem PermOn.at_ {α:Type} {a b i:Nat} {f g:Nat→α} (h:PermOn a b f g) (h1:a≤i) (h2:i<b):∃ j,a≤j∧j<b∧g i=f j:=by
 obtain ⟨p,r,k,o⟩:=h
 obtain ⟨q1,_,_,_,q5⟩:=k i h1 h2
 exact ⟨p i,q1.1,q1.2,q5⟩
theorem PermOn.out {α:Type} {a b i:Nat} {f g:Nat→α} (h:PermOn a b f g) (h1:¬(a≤i∧i<b)):g i=f i:=by
 obtain ⟨p,r,k,o⟩:=h
 exact o i h1
theorem rot_at {α:Type} (f:Nat→α) (a m b:Nat) (i:Nat):rot f a m b i=f (rot id a m b i):=by
 unfold rot id
 repeat' split
 all_goals rfl
theorem rot_perm {α:Type} (f:Nat→α) {a m b:Nat} (h1:a≤m) (h2:m≤b):PermOn a b f (rot f a m b):=by
 refine ⟨rot id a m b,rot id a (a+(b-m)) b,fun i ha hb=>⟨?_,?_,?_,?_,rot_at f a m b i⟩,fun i hi=>?_⟩
 ·unfold rot id;repeat' split
  all_goals omega
 ·unfold rot id;repeat' split
  all_goals omega
 ·unfold rot id;repeat' split
  all_goals omega
 ·unfold rot id;repeat' split
  all_goals omega
 ·unfold rot;rw [if_neg (by omega),if_neg (by omega)]
theorem swp_perm {α:Type} (f:Nat→α) {u v a b:Nat} (h1:a≤u∧u<b) (h2:a≤v∧v<b):PermOn a b f (swp f u v):=by
 refine ⟨swp id u v,swp id u v,fun i ha hb=>⟨?_,?_,?_,?_,?_⟩,fun i hi=>?_⟩
 ·unfold swp id;repeat' split
  all_goals omega
 ·unfold swp id;repeat' split
  all_goals omega
 ·unfold swp id;repeat' split
  all_goals omega
 ·unfold swp id;repeat' split
  all_goals omega
 ·unfold swp id;repeat' split
  all_goals rfl
 ·unfold swp;rw [if_neg (by omega),if_neg (by omega)]

def Srt (f:Nat→Fld) (a b:Nat):Prop:=∀ i j,a≤i→i≤j→j<b→(f i).tag≤(f j).tag

theorem Srt.join {f:Nat→Fld} {a m b:Nat} (h1:Srt f a m) (h2:Srt f m b) (h3:∀ i j,a≤i→i<m→m≤j→j<b→(f i).tag≤(f j).tag):Srt f a b:=fun i j hi hij hj=>by
 by_cases hjm:j<m
 ·exact h1 i j hi hij hjm
 ·by_cases him:i<m
  ·exact h3 i j hi him (by omega) hj
  ·exact h2 i j (by omega) hij hj
theorem Srt.sub {f:Nat→Fld} {a b a' b':Nat} (h:Srt f a b) (h1:a≤a') (h2:b'≤b):Srt f a' b':=fun i j hi hij hj=>h i j (by omega) hij (by omega)
theorem Srt.congr {f g:Nat→Fld} {a b:Nat} (h:Srt f a b) (hg:∀ i,a≤i→i<b→g i=f i):Srt g a b:=fun i j hi hij hj=>by
 rw [hg i hi (by omega),hg j (by omega) hj];exact h i j hi hij hj

theorem rot1 {α:Type} (f:Nat→α) {s m e i:Nat} (h:i<s):rot f s m e i=f i:=by unfold rot;rw [if_neg (by omega),if_neg (by omega)]
theorem rot2 {α:Type} (f:Nat→α) {s m e i:Nat} (h1:s≤i) (h2:i<s+(e-m)):rot f s m e i=f (i+(m-s)):=by unfold rot;rw [if_pos ⟨h1,h2⟩]
theorem rot3 {α:Type} (f:Nat→α) {s m e i:Nat} (h1:s+(e-m)≤i) (h2:i<e):rot f s m e i=f (i-(e-m)):=by unfold rot;rw [if_neg (by omega),if_pos ⟨h1,h2⟩]
theorem rot4 {α:Type} (f:Nat→α) {s m e i:Nat} (hs:s≤m) (hm:m≤e) (h:e≤i):rot f s m e i=f i:=by unfold rot;rw [if_neg (by omega),if_neg (by omega)]

structure Cut (f:Nat→Fld) (a m b s e:Nat):Prop where
 ax:a≤s
 sm:s≤m
 me:m≤e
 eb:e≤b
 s1:Srt f a m
 s2:Srt f m b
 x1:∀ i j,a≤i→i<s→e≤j→j<b→(f i).tag≤(f j).tag
 x2:∀ i j,s≤i→i<m→m≤j→j<e→(f j).tag≤(f i).tag

theorem Cut.left {f:Nat→Fld} {a m b s e:Nat} (h:Cut f a m b s e):Srt (rot f s m e) a s∧Srt (rot f s m e) s (s+(e-m)):=by
 obtain ⟨q1,q2,q3,q4,q5,q6,q7,q8⟩:=h
 refine ⟨fun i j hi hij hj=>?_,fun i j hi hij hj=>?_⟩
 ·rw [rot1 f (by omega),rot1 f (by omega)];exact q5 i j hi hij (by omega)
 ·rw [rot2 f hi (by omega),rot2 f (by omega) hj];exact q6 _ _ (by omega) (by omega) (by omega)
theorem Cut.right {f:Nat→Fld} {a m b s e:Nat} (h:Cut f a m b s e):Srt (rot f s m e) (s+(e-m)) e∧Srt (rot f s m e) e b:=by
 obtain ⟨q1,q2,q3,q4,q5,q6,q7,q8⟩:=h
 refine ⟨fun i j hi hij hj=>?_,fun i j hi hij hj=>?_⟩
 ·rw [rot3 f hi (by omega),rot3 f (by omega) hj];exact q5 _ _ (by omega) (by omega) (by omega)
 ·rw [rot4 f q2 q3 hi,rot4 f q2 q3 (by omega)];exact q6 i j (by omega) hij hj
theorem Cut.cross {f:Nat→Fld} {a m b s e:Nat} (h:Cut f a m b s e):∀ i j,a≤i→i<s+(e-m)→s+(e-m)≤j→j<b→(rot f s m e i).tag≤(rot f s m e j).tag:=by
 obtain ⟨q1,q2,q3,q4,q5,q6,q7,q8⟩:=h
 intro i j hi hm hj hb
 by_cases h1:i<s
 ·rw [rot1 f h1]
  by_cases h2:j<e
  ·rw [rot3 f hj h2];exact q5 _ _ hi (by omega) (by omega)
  ·rw [rot4 f q2 q3 (by omega)];exact q7 i j hi h1 (by omega) hb
 ·rw [rot2 f (by omega) hm]
  by_cases h2:j<e
  ·rw [rot3 f hj h2];exact q8 _ _ (by omega) (by omega) (by omega) (by omega)
  ·rw [rot4 f q2 q3 (by omega)];exact q6 _ _ (by omega) (by omega) hb

theorem Cut.one {f:Nat→Fld} {a m b s e:Nat} (h:Cut f a m b s e) (h1:Srt (rot f s m e) a (s+(e-m))) (h2:Srt (rot f s m e) (s+(e-m)) b):Srt (rot f s m e) a b:=Srt.join h1 h2 h.cross

theorem cut_left {f:Nat→Fld} {a b i:Nat} (hi:a+1≤i) (hb:i≤b) (s2:Srt f (a+1) b) (h1:i=a+1∨(f (i-1)).tag<(f a).tag) (h2:i=b∨(f a).tag≤(f i).tag):Srt (rot f a (a+1) i) a b:=by
 have hc:Cut f a (a+1) b a i:=⟨Nat.le_refl _,by omega,hi,hb,fun x y hx hxy hy=>by
   have:x=y:=by omega
   subst this;exact Int.le_refl _,s2,fun x y hx hs=>by omega,fun x y hx hm hy he=>by
   have:x=a:=by omega
   subst this
   rcases h1 with h|h
   ·omega
   ·have:=s2 y (i-1) hy (by omega) (by omega);omega⟩
 refine hc.one (hc.left.2) ?_
 refine Srt.join (m:=i) hc.right.1 hc.right.2 (fun x y hx hxi hy hyb=>?_)
 rw [rot3 f hx hxi,rot4 f (by omega) hi hy,show x-(i-(a+1))=a by omega]
 rcases h2 with h|h
 ·omega
 ·have:=s2 i y hi hy hyb;omega
theorem cut_right {f:Nat→Fld} {a m i:Nat} (hi:a≤i) (hm:i≤m) (s1:Srt f a m) (h1:i=a∨(f (i-1)).tag≤(f m).tag) (h2:i=m∨(f m).tag<(f i).tag):Srt (rot f i m (m+1)) a (m+1):=by
 have hc:Cut f a m (m+1) i (m+1):=⟨hi,hm,by omega,Nat.le_refl _,s1,fun x y hx hxy hy=>by
   have:x=y:=by omega
   subst this;exact Int.le_refl _,fun x y hx hs he hy=>by omega,fun x y hx hxm hy he=>by
   have:y=m:=by omega
   subst this
   rcases h2 with h|h
   ·omega
   ·have:=s1 i x (by omega) (by omega) hxm;omega⟩
 refine hc.one ?_ hc.right.1
 refine Srt.join (m:=i) hc.left.1 hc.left.2 (fun x y hx hxi hy hyb=>?_)
 rw [rot1 f hxi,rot2 f hy hyb,show y+(m-i)=m by omega]
 rcases h1 with h|h
 ·omega
 ·have:=s1 x (i-1) hx (by omega) (by omega);omega
theorem cut_mid {f:Nat→Fld} {a m b s n lo hi:Nat} (s1:Srt f a m) (s2:Srt f m b) (hn:n=(a+b) / 2+m) (h1:a≤lo) (h2:n≤lo+b) (hlo:lo≤s) (hhi:s≤hi) (h3:hi≤m) (h4:hi+m≤n)
  (hlo2:lo=a∨lo+b=n) (hhi2:hi=m∨hi+m=n) (k1:s=lo∨(f (s-1)).tag≤(f (n-s)).tag) (k2:s=hi∨(f (n-1-s)).tag<(f s).tag):Cut f a m b s (n-s):=by
 refine ⟨by omega,by omega,by omega,by omega,s1,s2,fun i j ha his hej hj=>?_,fun i j hsi him hmj hje=>?_⟩
 ·rcases k1 with h|h
  ·omega
  ·have e1:=s1 i (s-1) ha (by omega) (by omega)
   have e2:=s2 (n-s) j (by omega) hej hj
   omega
 ·rcases k2 with h|h
  ·omega
  ·have e1:=s1 s i (by omega) hsi him
   have e2:=s2 j (n-1-s) hmj (by omega) (by omega)
   omega

theorem halves {f g h:Nat→Fld} {a c b:Nat} (hac:a≤c) (hcb:c≤b) (hx:∀ i j,a≤i→i<c→c≤j→j<b→(f i).tag≤(f j).tag)
  (p1:PermOn a c f g) (s1:Srt g a c) (p2:PermOn c b g h) (s2:Srt h c b):Srt h a b∧PermOn a b f h:=by
 refine ⟨Srt.join (m:=c) (fun i j hi hij hj=>?_) s2 (fun i j hi h1 h2 hj=>?_),(p1.mono (Nat.le_refl _) hcb).trans (p2.mono hac (Nat.le_refl _))⟩
 ·rw [p2.out (by omega),p2.out (by omega)];exact s1 i j hi hij hj
 ·rw [p2.out (by omega)]
  obtain ⟨i',k1,k2,k3⟩:=p1.at_ hi h1
  obtain ⟨j',k4,k5,k6⟩:=p2.at_ h2 hj
  rw [k3,k6,p1.out (i:=j') (by omega)]
  exact hx i' j' k1 k2 k4 k5
end Go.Proofs

namespace Go.Proofs
open Go.Sy Go.Lib

theorem mid_wrap {i j:Nat} (h:i+j≤4000):IntKind.i64.wrap ((IntKind.u64.wrap (IntKind.i64.wrap ((i:Int)+(j:Int)))).fdiv (2 ^ min (1:Int).toNat IntKind.u64.bits))=(((i+j) / 2:Nat):Int):=by
 rw [w64 (x:=(i:Int)+(j:Int)) (by omega) (by omega)]
 have hu:IntKind.u64.wrap ((i:Int)+(j:Int))=(i:Int)+(j:Int):=by
  rw [IntKind.wrap_u64];omega
 rw [hu]
 have e1:((2:Int) ^ min (1:Int).toNat IntKind.u64.bits)=2:=by decide
 rw [e1,Int.fdiv_eq_ediv_of_nonneg _ (by decide),w64 (by omega) (by omega)]
 omega

def PY:Pl:=⟨[[],[],[],[],[],[],[],[],[],[],[],[],[],[],[],[9,13],[],[9,13,15]],[15,17],[],[]⟩

theorem swp_left {α:Type} (f:Nat→α) (a k:Nat) (h:a≤k):swp (rot f a (a+1) (k+1)) k (k+1)=rot f a (a+1) (k+1+1):=by
 funext x
 unfold swp rot
 repeat' split
 all_goals first
  | rfl
  | (congr 1;omega)
  | (exfalso;omega)
theorem swp_right {α:Type} (f:Nat→α) (m k:Nat) (h:k≤m) (h0:0<k):swp (rot f k m (m+1)) k (k-1)=rot f (k-1) m (m+1):=by
 funext x
 unfold swp rot
 repeat' split
 all_goals first
  | rfl
  | (congr 1;omega)
  | (exfalso;omega)
theorem rot_none {α:Type} (f:Nat→α) (a m:Nat):rot f a m m=f:=by
 funext x
 unfold rot
 repeat' split
 all_goals first
  | rfl
  | (congr 1;omega)
  | (exfalso;omega)
theorem rot_none2 {α:Type} (f:Nat→α) (m e:Nat):rot f m m e=f:=by
 funext x
 unfold rot
 repeat' split
 all_goals first
  | rfl
  | (congr 1;omega)
  | (exfalso;omega)

theorem symMerge_A (g n cc:Nat) (hn:n≤1000):∀ (N a m b:Nat) (f:Nat→Fld),b-a≤N→a<m→m<b→b≤n→Srt f a m→Srt f m b →
  FnA Tryz.prog 144 [.v (HD g n cc),I64 (a:Nat),I64 (m:Nat),I64 (b:Nat),cmpV] [arA g n cc f] (fun r cs'=>r=.tup []∧∃ f',cs'=[arA g n cc f']∧PermOn a b f f'∧Srt f' a b)
 | 0,a,m,b,f,hN,h1,h2,hb,s1,s2=>by omega
 | N+1,a,m,b,f,hN,h1,h2,hb,s1,s2=>by
  refine fnA Tryz.func144 fun X=>?_
  have hcmp:∀ x y:Fld,_:=fun x y=>CmpF_c x y
  repeat (first|refine sc rfl ?_|refine so rfl ?_)
  rw [w64 (x:=(m:Int)-(a:Int)) (by omega) (by omega)]
  refine C_if rfl (fun m1=>?_) (fun m1=>?_)<;>simp only [pL] at m1
  ·obtain rfl:m=a+1:=by omega
   repeat (first|refine sc rfl ?_|refine so rfl ?_)
   refine C_loop (fun q:Nat×Nat=>⟨[(0,.v (HD g n cc)),(1,I64 (a:Nat)),(4,cmpV),(10,I64 (q.1:Nat)),(11,I64 (q.2:Nat))],[.abs (arA g n cc f)]⟩)
    (fun q=>a+1≤q.1∧q.1≤q.2∧q.2≤b∧(q.1=a+1∨(f (q.1-1)).tag<(f a).tag)∧(q.2=b∨(f a).tag≤(f q.2).tag)) (fun q=>q.2-q.1) (a+1,b) ⟨Nat.le_refl _,by simp only [];omega,Nat.le_refl _,.inl rfl,.inl rfl⟩ (Le.pick [0] ⟨rfl,rfl,rfl,rfl,rfl,trivial⟩ rfl) ?_
   rintro ⟨i,j⟩ ⟨hi,hij,hj,f1,f2⟩
   simp only [] at hi hij hj f1 f2
   repeat (first|refine sc rfl ?_|refine so rfl ?_)
   refine C_if rfl (fun m2=>?_) (fun m2=>?_)<;>simp only [pL] at m2
   ·repeat (first|refine sc rfl ?_|refine so rfl ?_)
    refine ⟨by decide,?_⟩
    repeat (first|refine sc rfl ?_|refine so rfl ?_)
    rw [mid_wrap (i:=i) (j:=j) (by omega)]
    have hc1:i≤(i+j) / 2:=by omega
    have hc2:(i+j) / 2<j:=by omega
    generalize (i+j) / 2=c at hc1 hc2 ⊢
    refine C_drawD rfl (by kernel_rfl) ?_
    refine sd rfl ?_
    refine sd rfl ?_
    refine sd rfl ?_
    refine sd rfl ⟨by omega,?_⟩
    rw [Int.toNat_natCast]
    refine D_X (.agg (Fld.c (f (c)))) (X_loadP 0 (reads_vec (q:=c) (j:=0) (by omega) (by omega)) rfl rfl rfl rfl rfl rfl) ?_
    refine sd rfl ?_
    refine sd rfl ?_
    refine sd rfl ⟨by omega,?_⟩
    rw [Int.toNat_natCast]
    refine D_X (.agg (Fld.c (f (a)))) (X_loadP 0 (reads_vec (q:=a) (j:=0) (by omega) (by omega)) rfl rfl rfl rfl rfl rfl) ?_
    refine D_callV (isClo_func 74) rfl (hcmp _ _) rfl rfl rfl rfl rfl ?_
    repeat refine sd rfl ?_
    repeat refine sc rfl ?_
    refine C_if rfl (fun m3=>?_) (fun m3=>?_)<;>rw [cmp_lt] at m3<;>simp only [pL] at m3
    ·repeat (first|refine sc rfl ?_|refine so rfl ?_)
     rw [w64 (x:=(c:Int)+1) (by omega) (by omega)]
     refine ⟨(c+1,j),⟨by simp only [];omega,by simp only [];omega,by simp only [];omega,.inr ?_,f2⟩,by simp only [];omega,Le.pick [0] ⟨rfl,rfl,rfl,rfl,rfl,trivial⟩ rfl⟩
     simp only [Nat.add_sub_cancel];exact m3
    ·repeat (first|refine sc rfl ?_|refine so rfl ?_)
     refine ⟨(i,c),⟨by simp only [];omega,by simp only [];omega,by simp only [];omega,f1,.inr ?_⟩,by simp only [];omega,Le.pick [0] ⟨rfl,rfl,rfl,rfl,rfl,trivial⟩ rfl⟩
     simp only [];omega
   ·obtain rfl:i=j:=by omega
    repeat (first|refine sc rfl ?_|refine so rfl ?_)
    refine C_loop (fun k:Nat=>⟨[(0,.v (HD g n cc)),(10,I64 (i:Nat)),(13,I64 (k:Nat))],[.abs (arA g n cc (rot f a (a+1) (k+1)))]⟩) (fun k=>a≤k∧k+1≤i) (fun k=>i-k) a ⟨Nat.le_refl _,hi⟩ ?_ ?_
    ·rw [rot_none]
     exact Le.pick [0] ⟨rfl,rfl,rfl,trivial⟩ rfl
    rintro k ⟨hk1,hk2⟩
    repeat (first|refine sc rfl ?_|refine so rfl ?_)
    rw [w64 (x:=(i:Int)-1) (by omega) (by omega)]
    refine C_if rfl (fun m3=>?_) (fun m3=>?_)<;>simp only [pL] at m3
    ·have hsw:=swp_left f a k hk1
     repeat refine sc rfl ?_
     refine C_drawX PY (fun ph=>match ph with
      | 0=>[.abs (arA g n cc (rot f a (a+1) (k+1)))]
      | 1=>[.abs (arA g n cc (fun x=>if x=k then (rot f a (a+1) (k+1)) (k+1) else (rot f a (a+1) (k+1)) x))]
      | _=>[.abs (arA g n cc (rot f a (a+1) (k+1+1)))]) rfl (by kernel_rfl) (by decide) rfl ?_
     refine sx rfl ⟨trivial,?_⟩
     refine sx rfl ⟨trivial,?_⟩
     refine sx rfl ⟨trivial,?_⟩
     refine sx rfl ⟨trivial,?_⟩
     refine sx rfl ⟨trivial,?_⟩
     rw [w64 (x:=(k:Int)+1) (by omega) (by omega),show (k:Int)+1=((k+1:Nat):Int) by omega]
     refine sx rfl ⟨trivial,?_⟩
     refine sx rfl ⟨trivial,?_⟩
     refine sx rfl ⟨trivial,?_⟩
     rw [w64 (x:=(k:Int)+1) (by omega) (by omega),show (k:Int)+1=((k+1:Nat):Int) by omega]
     refine sx rfl ⟨by omega,?_⟩
     rw [Int.toNat_natCast]
     refine SXr (.agg (Fld.c ((rot f a (a+1) (k+1)) (k+1)))) 0 rfl rfl rfl rfl (X_loadP 0 (reads_vec (q:=k+1) (j:=0) (by omega) (by omega)) rfl rfl rfl rfl rfl rfl) ?_
     refine sx rfl ⟨trivial,?_⟩
     refine sx rfl ⟨trivial,?_⟩
     refine sx rfl ⟨by omega,?_⟩
     rw [Int.toNat_natCast]
     refine SXr (.agg (Fld.c ((rot f a (a+1) (k+1)) (k)))) 0 rfl rfl rfl rfl (X_loadP 0 (reads_vec (q:=k) (j:=0) (by omega) (by omega)) rfl rfl rfl rfl rfl rfl) ?_
     refine sx rfl ⟨by omega,?_⟩
     rw [Int.toNat_natCast]
     refine SXw .bad 0 rfl rfl rfl rfl (X_storeV 0 (k) (row':=fun x=>Fld.c (if x=k then (rot f a (a+1) (k+1)) (k+1) else (rot f a (a+1) (k+1)) x)) rfl rfl rfl (by omega) rfl rfl rfl (by omega) rfl (fun x hx=>?_)) ?_
     ·by_cases hx2:x=k
      ·rw [if_pos hx2,if_pos hx2]
      ·rw [if_neg hx2,if_neg hx2]
     refine sx rfl ⟨by omega,?_⟩
     rw [Int.toNat_natCast]
     refine SXw .bad 1 rfl rfl rfl rfl (X_storeV 0 (k+1) (row':=fun x=>Fld.c ((rot f a (a+1) (k+1+1)) x)) rfl rfl rfl (by omega) rfl rfl rfl (by omega) rfl (fun x hx=>?_)) ?_
     ·rw [← hsw]
      unfold swp
      by_cases hx1:x=k+1
      ·rw [if_pos hx1,if_pos hx1]
      ·rw [if_neg hx1,if_neg hx1]
     refine sx rfl ?_
     repeat (first|refine sc rfl ?_|refine so rfl ?_)
     rw [w64 (x:=(k:Int)+1) (by omega) (by omega)]
     refine ⟨k+1,⟨by omega,by omega⟩,by omega,Le.pick [0] ⟨rfl,rfl,rfl,trivial⟩ rfl⟩
    ·obtain rfl:k+1=i:=by omega
     repeat refine sc rfl ?_
     exact ⟨_,[_],_,rfl,.refl _,rfl,rfl,_,rfl,(rot_perm f (by omega) hi).mono (Nat.le_refl _) hj,cut_left hi hj s2 f1 f2⟩
  repeat (first|refine sc rfl ?_|refine so rfl ?_)
  rw [w64 (x:=(b:Int)-(m:Int)) (by omega) (by omega)]
  refine C_if rfl (fun m2=>?_) (fun m2=>?_)<;>simp only [pL] at m2
  ·obtain rfl:b=m+1:=by omega
   repeat (first|refine sc rfl ?_|refine so rfl ?_)
   refine C_loop (fun q:Nat×Nat=>⟨[(0,.v (HD g n cc)),(2,I64 (m:Nat)),(4,cmpV),(14,I64 (q.1:Nat)),(15,I64 (q.2:Nat))],[.abs (arA g n cc f)]⟩)
    (fun q=>a≤q.1∧q.1≤q.2∧q.2≤m∧(q.1=a∨(f (q.1-1)).tag≤(f m).tag)∧(q.2=m∨(f m).tag<(f q.2).tag)) (fun q=>q.2-q.1) (a,m) ⟨Nat.le_refl _,by simp only [];omega,Nat.le_refl _,.inl rfl,.inl rfl⟩ (Le.pick [0] ⟨rfl,rfl,rfl,rfl,rfl,trivial⟩ rfl) ?_
   rintro ⟨i,j⟩ ⟨hi,hij,hj,f1,f2⟩
   simp only [] at hi hij hj f1 f2
   repeat (first|refine sc rfl ?_|refine so rfl ?_)
   refine C_if rfl (fun m3=>?_) (fun m3=>?_)<;>simp only [pL] at m3
   ·repeat (first|refine sc rfl ?_|refine so rfl ?_)
    refine ⟨by decide,?_⟩
    repeat (first|refine sc rfl ?_|refine so rfl ?_)
    rw [mid_wrap (i:=i) (j:=j) (by omega)]
    have hc1:i≤(i+j) / 2:=by omega
    have hc2:(i+j) / 2<j:=by omega
    generalize (i+j) / 2=c at hc1 hc2 ⊢
    refine C_drawD rfl (by kernel_rfl) ?_
    refine sd rfl ?_
    refine sd rfl ?_
    refine sd rfl ?_
    refine sd rfl ⟨by omega,?_⟩
    rw [Int.toNat_natCast]
    refine D_X (.agg (Fld.c (f (m)))) (X_loadP 0 (reads_vec (q:=m) (j:=0) (by omega) (by omega)) rfl rfl rfl rfl rfl rfl) ?_
    refine sd rfl ?_
    refine sd rfl ?_
    refine sd rfl ⟨by omega,?_⟩
    rw [Int.toNat_natCast]
    refine D_X (.agg (Fld.c (f (c)))) (X_loadP 0 (reads_vec (q:=c) (j:=0) (by omega) (by omega)) rfl rfl rfl rfl rfl rfl) ?_
    refine D_callV (isClo_func 74) rfl (hcmp _ _) rfl rfl rfl rfl rfl ?_
    repeat refine sd rfl ?_
    repeat refine sc rfl ?_
    refine C_if rfl (fun m4=>?_) (fun m4=>?_)<;>rw [cmp_lt] at m4<;>simp only [pL] at m4
    ·repeat (first|refine sc rfl ?_|refine so rfl ?_)
     rw [w64 (x:=(c:Int)+1) (by omega) (by omega)]
     refine ⟨(c+1,j),⟨by simp only [];omega,by simp only [];omega,by simp only [];omega,.inr ?_,f2⟩,by simp only [];omega,Le.pick [0] ⟨rfl,rfl,rfl,rfl,rfl,trivial⟩ rfl⟩
     simp only [Nat.add_sub_cancel];omega
    ·repeat (first|refine sc rfl ?_|refine so rfl ?_)
     refine ⟨(i,c),⟨by simp only [];omega,by simp only [];omega,by simp only [];omega,f1,.inr ?_⟩,by simp only [];omega,Le.pick [0] ⟨rfl,rfl,rfl,rfl,rfl,trivial⟩ rfl⟩
     simp only [];exact m4
   ·obtain rfl:i=j:=by omega
    repeat (first|refine sc rfl ?_|refine so rfl ?_)
    refine C_loop (fun k:Nat=>⟨[(0,.v (HD g n cc)),(14,I64 (i:Nat)),(17,I64 (k:Nat))],[.abs (arA g n cc (rot f k m (m+1)))]⟩) (fun k=>i≤k∧k≤m) (fun k=>k) m ⟨hj,Nat.le_refl _⟩ ?_ ?_
    ·rw [rot_none2]
     exact Le.pick [0] ⟨rfl,rfl,rfl,trivial⟩ rfl
    rintro k ⟨hk1,hk2⟩
    repeat (first|refine sc rfl ?_|refine so rfl ?_)
    refine C_if rfl (fun m4=>?_) (fun m4=>?_)<;>simp only [pL] at m4
    ·have hsw:=swp_right f m k hk2 (by omega)
     repeat refine sc rfl ?_
     refine C_drawX PY (fun ph=>match ph with
      | 0=>[.abs (arA g n cc (rot f k m (m+1)))]
      | 1=>[.abs (arA g n cc (fun x=>if x=k then (rot f k m (m+1)) (k-1) else (rot f k m (m+1)) x))]
      | _=>[.abs (arA g n cc (rot f (k-1) m (m+1)))]) rfl (by kernel_rfl) (by decide) rfl ?_
     refine sx rfl ⟨trivial,?_⟩
     refine sx rfl ⟨trivial,?_⟩
     refine sx rfl ⟨trivial,?_⟩
     refine sx rfl ⟨trivial,?_⟩
     refine sx rfl ⟨trivial,?_⟩
     rw [w64 (x:=(k:Int)-1) (by omega) (by omega),show (k:Int)-1=((k-1:Nat):Int) by omega]
     refine sx rfl ⟨trivial,?_⟩
     refine sx rfl ⟨trivial,?_⟩
     refine sx rfl ⟨trivial,?_⟩
     rw [w64 (x:=(k:Int)-1) (by omega) (by omega),show (k:Int)-1=((k-1:Nat):Int) by omega]
     refine sx rfl ⟨by omega,?_⟩
     rw [Int.toNat_natCast]
     refine SXr (.agg (Fld.c ((rot f k m (m+1)) (k-1)))) 0 rfl rfl rfl rfl (X_loadP 0 (reads_vec (q:=k-1) (j:=0) (by omega) (by omega)) rfl rfl rfl rfl rfl rfl) ?_
     refine sx rfl ⟨trivial,?_⟩
     refine sx rfl ⟨trivial,?_⟩
     refine sx rfl ⟨by omega,?_⟩
     rw [Int.toNat_natCast]
     refine SXr (.agg (Fld.c ((rot f k m (m+1)) (k)))) 0 rfl rfl rfl rfl (X_loadP 0 (reads_vec (q:=k) (j:=0) (by omega) (by omega)) rfl rfl rfl rfl rfl rfl) ?_
     refine sx rfl ⟨by omega,?_⟩
     rw [Int.toNat_natCast]
     refine SXw .bad 0 rfl rfl rfl rfl (X_storeV 0 (k) (row':=fun x=>Fld.c (if x=k then (rot f k m (m+1)) (k-1) else (rot f k m (m+1)) x)) rfl rfl rfl (by omega) rfl rfl rfl (by omega) rfl (fun x hx=>?_)) ?_
     ·by_cases hx2:x=k
      ·rw [if_pos hx2,if_pos hx2]
      ·rw [if_neg hx2,if_neg hx2]
     refine sx rfl ⟨by omega,?_⟩
     rw [Int.toNat_natCast]
     refine SXw .bad 1 rfl rfl rfl rfl (X_storeV 0 (k-1) (row':=fun x=>Fld.c ((rot f (k-1) m (m+1)) x)) rfl rfl rfl (by omega) rfl rfl rfl (by omega) rfl (fun x hx=>?_)) ?_
     ·rw [← hsw]
      unfold swp
      by_cases hx1:x=k-1
      ·rw [if_pos hx1,if_pos hx1]
      ·rw [if_neg hx1,if_neg hx1]
     refine sx rfl ?_
     repeat (first|refine sc rfl ?_|refine so rfl ?_)
     rw [w64 (x:=(k:Int)-1) (by omega) (by omega),show (k:Int)-1=((k-1:Nat):Int) by omega]
     refine ⟨k-1,⟨by omega,by omega⟩,by omega,Le.pick [0] ⟨rfl,rfl,rfl,trivial⟩ rfl⟩
    ·obtain rfl:k=i:=by omega
     repeat refine sc rfl ?_
     exact ⟨_,[_],_,rfl,.refl _,rfl,rfl,_,rfl,(rot_perm f hj (by omega)).mono hi (Nat.le_refl _),cut_right hi hj s1 f1 f2⟩
  repeat (first|refine sc rfl ?_|refine so rfl ?_)
  refine ⟨by decide,?_⟩
  repeat (first|refine sc rfl ?_|refine so rfl ?_)
  rw [mid_wrap (i:=a) (j:=b) (by omega)]
  generalize hmid:(a+b) / 2=mid
  rw [w64 (x:=(mid:Int)+(m:Int)) (by omega) (by omega),show (mid:Int)+(m:Int)=((mid+m:Nat):Int) by omega]
  generalize hnn:mid+m=nn
  refine C_joinE (fun q:Nat×Nat=>⟨[(0,.v (HD g n cc)),(1,I64 (a:Nat)),(2,I64 (m:Nat)),(3,I64 (b:Nat)),(4,cmpV),(18,I64 (mid:Nat)),(19,I64 (nn:Nat)),(20,I64 (q.1:Nat)),(21,I64 (q.2:Nat))],[.abs (arA g n cc f)]⟩)
   (fun q=>a≤q.1∧nn≤q.1+b∧q.1≤q.2∧q.2≤m∧q.2+m≤nn∧(q.1=a∨q.1+b=nn)∧(q.2=m∨q.2+m=nn)) ?_ (fun q s hI hle=>C_le _ hle ?_)
  ·refine C_if rfl (fun m3=>?_) (fun m3=>?_)<;>simp only [pL] at m3
   ·repeat (first|refine sc rfl ?_|refine so rfl ?_)
    rw [w64 (x:=(nn:Int)-(b:Int)) (by omega) (by omega),show (nn:Int)-(b:Int)=((nn-b:Nat):Int) by omega]
    exact ⟨(nn-b,mid),⟨by simp only [];omega,by simp only [];omega,by simp only [];omega,by simp only [];omega,by simp only [];omega,.inr (by simp only [];omega),.inr (by simp only [];omega)⟩,Le.pick [0] ⟨rfl,rfl,rfl,rfl,rfl,rfl,rfl,rfl,rfl,trivial⟩ rfl⟩
   ·repeat (first|refine sc rfl ?_|refine so rfl ?_)
    exact ⟨(a,m),⟨by simp only [];omega,by simp only [];omega,by simp only [];omega,by simp only [];omega,by simp only [];omega,.inl rfl,.inl rfl⟩,Le.pick [0] ⟨rfl,rfl,rfl,rfl,rfl,rfl,rfl,rfl,rfl,trivial⟩ rfl⟩
  obtain ⟨lo,hi⟩:=q
  obtain ⟨q1,q2,q3,q4,q5,q6,q7⟩:=hI
  simp only [] at q1 q2 q3 q4 q5 q6 q7
  repeat (first|refine sc rfl ?_|refine so rfl ?_)
  rw [w64 (x:=(nn:Int)-1) (by omega) (by omega),show (nn:Int)-1=((nn-1:Nat):Int) by omega]
  refine C_loop (fun q:Nat×Nat=>⟨[(0,.v (HD g n cc)),(1,I64 (a:Nat)),(2,I64 (m:Nat)),(3,I64 (b:Nat)),(4,cmpV),(18,I64 (mid:Nat)),(19,I64 (nn:Nat)),(20,I64 (q.1:Nat)),(21,I64 (q.2:Nat)),(22,I64 ((nn-1:Nat):Int))],[.abs (arA g n cc f)]⟩)
   (fun q=>lo≤q.1∧q.1≤q.2∧q.2≤hi∧(q.1=lo∨(f (q.1-1)).tag≤(f (nn-q.1)).tag)∧(q.2=hi∨(f (nn-1-q.2)).tag<(f q.2).tag)) (fun q=>q.2-q.1) (lo,hi) ⟨Nat.le_refl _,q3,Nat.le_refl _,.inl rfl,.inl rfl⟩ (Le.pick [0] ⟨rfl,rfl,rfl,rfl,rfl,rfl,rfl,rfl,rfl,rfl,trivial⟩ rfl) ?_
  rintro ⟨i,j⟩ ⟨hi1,hij,hj,f1,f2⟩
  simp only [] at hi1 hij hj f1 f2
  repeat (first|refine sc rfl ?_|refine so rfl ?_)
  refine C_if rfl (fun m3=>?_) (fun m3=>?_)<;>simp only [pL] at m3
  ·repeat (first|refine sc rfl ?_|refine so rfl ?_)
   refine ⟨by decide,?_⟩
   repeat (first|refine sc rfl ?_|refine so rfl ?_)
   rw [mid_wrap (i:=i) (j:=j) (by omega)]
   have hc1:i≤(i+j) / 2:=by omega
   have hc2:(i+j) / 2<j:=by omega
   generalize (i+j) / 2=c at hc1 hc2 ⊢
   refine C_drawD rfl (by kernel_rfl) ?_
   refine sd rfl ?_
   refine sd rfl ?_
   refine sd rfl ?_
   refine sd rfl ?_
   refine sd rfl ?_
   rw [w64 (x:=((nn-1:Nat):Int)-(c:Int)) (by omega) (by omega),show ((nn-1:Nat):Int)-(c:Int)=((nn-1-c:Nat):Int) by omega]
   refine sd rfl ⟨by omega,?_⟩
   rw [Int.toNat_natCast]
   refine D_X (.agg (Fld.c (f (nn-1-c)))) (X_loadP 0 (reads_vec (q:=nn-1-c) (j:=0) (by omega) (by omega)) rfl rfl rfl rfl rfl rfl) ?_
   refine sd rfl ?_
   refine sd rfl ?_
   refine sd rfl ⟨by omega,?_⟩
   rw [Int.toNat_natCast]
   refine D_X (.agg (Fld.c (f (c)))) (X_loadP 0 (reads_vec (q:=c) (j:=0) (by omega) (by omega)) rfl rfl rfl rfl rfl rfl) ?_
   refine D_callV (isClo_func 74) rfl (hcmp _ _) rfl rfl rfl rfl rfl ?_
   repeat refine sd rfl ?_
   repeat refine sc rfl ?_
   refine C_if rfl (fun m4=>?_) (fun m4=>?_)<;>rw [cmp_lt] at m4<;>simp only [pL] at m4
   ·repeat (first|refine sc rfl ?_|refine so rfl ?_)
    rw [w64 (x:=(c:Int)+1) (by omega) (by omega)]
    refine ⟨(c+1,j),⟨by simp only [];omega,by simp only [];omega,by simp only [];omega,.inr ?_,f2⟩,by simp only [];omega,Le.pick [0] ⟨rfl,rfl,rfl,rfl,rfl,rfl,rfl,rfl,rfl,rfl,trivial⟩ rfl⟩
    simp only [Nat.add_sub_cancel]
    rw [show nn-(c+1)=nn-1-c by omega];omega
   ·repeat (first|refine sc rfl ?_|refine so rfl ?_)
    refine ⟨(i,c),⟨by simp only [];omega,by simp only [];omega,by simp only [];omega,f1,.inr ?_⟩,by simp only [];omega,Le.pick [0] ⟨rfl,rfl,rfl,rfl,rfl,rfl,rfl,rfl,rfl,rfl,trivial⟩ rfl⟩
    simp only [];exact m4
  ·obtain rfl:i=j:=by omega
   iterate 9 (first|refine sc rfl ?_|refine so rfl ?_)
   rw [w64 (x:=(nn:Int)-(i:Int)) (by omega) (by omega),show (nn:Int)-(i:Int)=((nn-i:Nat):Int) by omega]
   have hC:Cut f a m b i (nn-i):=cut_mid s1 s2 (by rw [hmid];exact hnn.symm) q1 q2 hi1 hj q4 q5 q6 q7 f1 f2
   have hsm:i+(nn-i-m)=mid:=by omega
   have hL:=hC.left
   have hR:=hC.right
   have hX:=hC.cross
   rw [hsm] at hL hR hX
   generalize he:nn-i=e at *
   refine C_joinE (fun _:Unit=>⟨[(0,.v (HD g n cc)),(1,I64 (a:Nat)),(2,I64 (m:Nat)),(3,I64 (b:Nat)),(4,cmpV),(18,I64 (mid:Nat)),(20,I64 (i:Nat)),(24,I64 (e:Nat))],[.abs (arA g n cc (rot f i m e))]⟩) (fun _=>True) ?_ (fun _ s _ hle=>C_le _ hle ?_)
   ·repeat (first|refine sc rfl ?_|refine so rfl ?_)
    refine O_case 181 rfl (fun c1=>?_) (fun c1=>?_)<;>simp only [pL] at c1
    ·repeat refine so rfl ?_
     refine C_if rfl (fun c2=>?_) (fun c2=>?_)<;>simp only [pL] at c2
     ·have hA:=rotate_A g n cc f i m e (by omega) (by omega) (by omega) hn
      repeat (first|refine sc rfl ?_|refine so rfl ?_)
      refine O_cA [0] hA ?_
      rintro r cs' ⟨rfl,rfl⟩
      repeat refine so rfl ?_
      exact ⟨(),trivial,Le.pick [0] ⟨rfl,rfl,rfl,rfl,rfl,rfl,rfl,rfl,trivial⟩ rfl⟩
     ·repeat refine sc rfl ?_
      have hem:e=m:=by omega
      have hr:rot f i m e=f:=by rw [hem];exact rot_none f i m
      refine ⟨(),trivial,?_⟩
      rw [hr]
      exact Le.pick [0] ⟨rfl,rfl,rfl,rfl,rfl,rfl,rfl,rfl,trivial⟩ rfl
    ·repeat refine so rfl ?_
     refine C_false rfl rfl ?_
     repeat refine sc rfl ?_
     have him:i=m:=by omega
     have hr:rot f i m e=f:=by rw [him];exact rot_none2 f m e
     refine ⟨(),trivial,?_⟩
     rw [hr]
     exact Le.pick [0] ⟨rfl,rfl,rfl,rfl,rfl,rfl,rfl,rfl,trivial⟩ rfl
   have hP1:PermOn a b f (rot f i m e):=(rot_perm f hC.sm hC.me).mono hC.ax hC.eb
   have hae:=hC.ax
   have hme:=hC.me
   have heb:=hC.eb
   generalize hg1:rot f i m e=g1 at *
   refine sc rfl ?_
   refine C_joinE (fun g2:Nat→Fld=>⟨[(0,.v (HD g n cc)),(3,I64 (b:Nat)),(4,cmpV),(18,I64 (mid:Nat)),(24,I64 (e:Nat))],[.abs (arA g n cc g2)]⟩) (fun g2=>PermOn a mid g1 g2∧Srt g2 a mid) ?_ (fun g2 s hI hle=>C_le _ hle ?_)
   ·repeat (first|refine sc rfl ?_|refine so rfl ?_)
    refine O_case 195 rfl (fun c1=>?_) (fun c1=>?_)<;>simp only [pL] at c1
    ·repeat refine so rfl ?_
     refine C_if rfl (fun c2=>?_) (fun c2=>?_)<;>simp only [pL] at c2
     ·have hA:=symMerge_A g n cc hn N a i mid g1 (by omega) (by omega) (by omega) (by omega) hL.1 hL.2
      repeat (first|refine sc rfl ?_|refine so rfl ?_)
      refine O_cA [0] hA ?_
      rintro r cs' ⟨rfl,f',rfl,p1,p2⟩
      repeat refine so rfl ?_
      exact ⟨f',⟨p1,p2⟩,Le.pick [0] ⟨rfl,rfl,rfl,rfl,rfl,trivial⟩ rfl⟩
     ·repeat refine sc rfl ?_
      refine ⟨g1,⟨.refl _ _ _,?_⟩,Le.pick [0] ⟨rfl,rfl,rfl,rfl,rfl,trivial⟩ rfl⟩
      have:i=mid:=by omega
      rw [this] at hL;exact hL.1
    ·repeat refine so rfl ?_
     refine C_false rfl rfl ?_
     repeat refine sc rfl ?_
     refine ⟨g1,⟨.refl _ _ _,?_⟩,Le.pick [0] ⟨rfl,rfl,rfl,rfl,rfl,trivial⟩ rfl⟩
     have:i=a:=by omega
     rw [this] at hL;exact hL.2
   obtain ⟨p1,t1⟩:=hI
   have hr1:Srt g2 mid e:=hR.1.congr (fun x hx hy=>p1.out (by omega))
   have hr2:Srt g2 e b:=hR.2.congr (fun x hx hy=>p1.out (by omega))
   have hfin:∀ g3,PermOn mid b g2 g3→Srt g3 mid b→PermOn a b f g3∧Srt g3 a b:=fun g3 p2 t2=>by
    obtain ⟨u1,u2⟩:=halves (a:=a) (c:=mid) (b:=b) (by omega) (by omega) hX p1 t1 p2 t2
    exact ⟨hP1.trans u2,u1⟩
   repeat (first|refine sc rfl ?_|refine so rfl ?_)
   refine O_case 209 rfl (fun c1=>?_) (fun c1=>?_)<;>simp only [pL] at c1
   ·repeat refine so rfl ?_
    refine C_if rfl (fun c2=>?_) (fun c2=>?_)<;>simp only [pL] at c2
    ·have hA:=symMerge_A g n cc hn N mid e b g2 (by omega) (by omega) (by omega) hb hr1 hr2
     repeat (first|refine sc rfl ?_|refine so rfl ?_)
     refine O_cA [0] hA ?_
     rintro r cs' ⟨rfl,f',rfl,p2,t2⟩
     repeat refine so rfl ?_
     exact ⟨_,[_],_,rfl,.refl _,rfl,rfl,f',rfl,hfin f' p2 t2⟩
    ·repeat refine sc rfl ?_
     refine ⟨_,[_],_,rfl,.refl _,rfl,rfl,g2,rfl,hfin g2 (.refl _ _ _) ?_⟩
     have:e=b:=by omega
     rw [this] at hr1;exact hr1
   ·repeat refine so rfl ?_
    refine C_false rfl rfl ?_
    repeat refine sc rfl ?_
    refine ⟨_,[_],_,rfl,.refl _,rfl,rfl,g2,rfl,hfin g2 (.refl _ _ _) ?_⟩
    have:e=mid:=by omega
    rw [this] at hr2;exact hr2
end Go.Proofs

namespace Go.Proofs
open Go.Sy Go.Lib

structure Ins (f:Nat→Fld) (a j i:Nat):Prop where
 l:Srt f a j
 r:Srt f j (i+1)
 x:∀ p q,a≤p→p<j→j<q→q≤i→(f p).tag≤(f q).tag

theorem ins_start {f:Nat→Fld} {a i:Nat} (h:Srt f a i):Ins f a i i:=⟨h,fun p q h1 h2 h3=>by
 have:p=q:=by omega
 subst this;exact Int.le_refl _,fun p q _ _ h1 h2=>by omega⟩
theorem ins_done {f:Nat→Fld} {a j i:Nat} (h:Ins f a j i) (h1:a≤j) (h2:j≤i) (hd:j=a∨(f (j-1)).tag≤(f j).tag):Srt f a (i+1):=by
 refine Srt.join (m:=j) h.l h.r (fun p q hp hpj hjq hqi=>?_)
 rcases Nat.eq_or_lt_of_le hjq with e|e
 ·subst e
  rcases hd with hd|hd
  ·omega
  ·have:=h.l p (j-1) hp (by omega) (by omega);omega
 ·exact h.x p q hp hpj e (by omega)
theorem ins_step {f:Nat→Fld} {a j i:Nat} (h:Ins f a j i) (h1:a<j) (h2:j≤i) (hlt:(f j).tag<(f (j-1)).tag):Ins (swp f j (j-1)) a (j-1) i:=by
 have e0:∀ p,p<j-1→swp f j (j-1) p=f p:=fun p hp=>by unfold swp;rw [if_neg (by omega),if_neg (by omega)]
 have e1:swp f j (j-1) (j-1)=f j:=by unfold swp;rw [if_pos rfl]
 have e2:swp f j (j-1) j=f (j-1):=by unfold swp;rw [if_neg (by omega),if_pos rfl]
 have e3:∀ p,j<p→swp f j (j-1) p=f p:=fun p hp=>by unfold swp;rw [if_neg (by omega),if_neg (by omega)]
 refine ⟨fun p q hp hpq hq=>?_,fun p q hp hpq hq=>?_,fun p q hp hpj hjq hqi=>?_⟩
 ·rw [e0 p (by omega),e0 q hq];exact h.l p q hp hpq (by omega)
 ·by_cases c1:p=j-1
  ·subst c1
   rw [e1]
   by_cases c2:q=j-1
   ·subst c2;rw [e1];exact Int.le_refl _
   ·by_cases c3:q=j
    ·rw [c3,e2];omega
    ·rw [e3 q (by omega)];exact h.r j q (Nat.le_refl _) (by omega) hq
  ·by_cases c2:p=j
   ·rw [c2,e2]
    by_cases c3:q=j
    ·rw [c3,e2];exact Int.le_refl _
    ·rw [e3 q (by omega)];exact h.x (j-1) q (by omega) (by omega) (by omega) (by omega)
   ·rw [e3 p (by omega),e3 q (by omega)];exact h.r p q (by omega) hpq hq
 ·rw [e0 p hpj]
  by_cases c1:q=j
  ·rw [c1,e2];exact h.l p (j-1) hp (by omega) (by omega)
  ·rw [e3 q (by omega)];exact h.x p q hp (by omega) (by omega) hqi

theorem insSort_A (g n cc:Nat) (hn:n≤1000) (a b:Nat) (f:Nat→Fld) (hab:a≤b) (hb:b≤n) :
  FnA Tryz.prog 143 [.v (HD g n cc),I64 (a:Nat),I64 (b:Nat),cmpV] [arA g n cc f] (fun r cs'=>r=.tup []∧∃ f',cs'=[arA g n cc f']∧PermOn a b f f'∧Srt f' a b):=by
 refine fnA Tryz.func143 fun X=>?_
 have hcmp:∀ x y:Fld,_:=fun x y=>CmpF_c x y
 repeat (first|refine sc rfl ?_|refine so rfl ?_)
 rw [w64 (x:=(a:Int)+1) (by omega) (by omega)]
 refine C_loop (fun q:Nat×(Nat→Fld)=>⟨[(0,.v (HD g n cc)),(1,I64 (a:Nat)),(2,I64 (b:Nat)),(3,cmpV),(8,I64 (q.1:Nat))],[.abs (arA g n cc q.2)]⟩)
  (fun q=>a+1≤q.1∧(q.1≤b∨q.1=a+1)∧PermOn a b f q.2∧Srt q.2 a q.1) (fun q=>b-q.1) (a+1,f) ⟨Nat.le_refl _,.inr rfl,.refl _ _ _,fun p q h1 h2 h3=>by
   simp only [] at h3
   have:p=q:=by omega
   subst this;exact Int.le_refl _⟩ (Le.pick [0] ⟨rfl,rfl,rfl,rfl,rfl,trivial⟩ rfl) ?_
 rintro ⟨i,f1⟩ ⟨hi1,hi2,hp,hs⟩
 simp only [] at hi1 hi2 hp hs
 repeat (first|refine sc rfl ?_|refine so rfl ?_)
 refine C_if rfl (fun m1=>?_) (fun m1=>?_)<;>simp only [pL] at m1
 ·have hib:i<b:=by omega
  repeat (first|refine sc rfl ?_|refine so rfl ?_)
  refine C_loop (fun q:Nat×(Nat→Fld)=>⟨[(0,.v (HD g n cc)),(1,I64 (a:Nat)),(2,I64 (b:Nat)),(3,cmpV),(8,I64 (i:Nat)),(9,I64 (q.1:Nat))],[.abs (arA g n cc q.2)]⟩)
   (fun q=>a≤q.1∧q.1≤i∧PermOn a b f q.2∧Ins q.2 a q.1 i) (fun q=>q.1) (i,f1) ⟨by simp only [];omega,Nat.le_refl _,hp,ins_start hs⟩ (Le.pick [0] ⟨rfl,rfl,rfl,rfl,rfl,rfl,trivial⟩ rfl) ?_
  rintro ⟨j,f⟩ ⟨hj1,hj2,hp2,hI⟩
  simp only [] at hj1 hj2 hp2 hI
  repeat refine sc rfl ?_
  refine C_drawD rfl (by kernel_rfl) ?_
  repeat refine sd rfl ?_
  refine D_case 3 rfl (fun c1=>?_) (fun c1=>?_)<;>simp only [pL] at c1
  ·have haj:a<j:=by omega
   refine sd rfl ?_
   refine sd rfl ?_
   refine sd rfl ?_
   refine sd rfl ⟨by omega,?_⟩
   rw [Int.toNat_natCast]
   refine D_X (.agg (Fld.c (f j))) (X_loadP 0 (reads_vec (q:=j) (j:=0) (by omega) (by omega)) rfl rfl rfl rfl rfl rfl) ?_
   refine sd rfl ?_
   refine sd rfl ?_
   refine sd rfl ?_
   rw [w64 (x:=(j:Int)-1) (by omega) (by omega),show (j:Int)-1=((j-1:Nat):Int) by omega]
   refine sd rfl ⟨by omega,?_⟩
   rw [Int.toNat_natCast]
   refine D_X (.agg (Fld.c (f (j-1)))) (X_loadP 0 (reads_vec (q:=j-1) (j:=0) (by omega) (by omega)) rfl rfl rfl rfl rfl rfl) ?_
   refine D_callV (isClo_func 74) rfl (hcmp _ _) rfl rfl rfl rfl rfl ?_
   repeat refine sd rfl ?_
   repeat refine sc rfl ?_
   refine C_if rfl (fun m2=>?_) (fun m2=>?_)<;>rw [cmp_lt] at m2<;>simp only [pL] at m2
   ·have hsw:∀ x,swp f j (j-1) x=swp f j (j-1) x:=fun _=>rfl
    repeat refine sc rfl ?_
    refine C_drawX PY (fun ph=>match ph with
     | 0=>[.abs (arA g n cc (f))]
     | 1=>[.abs (arA g n cc (fun x=>if x=j then (f) (j-1) else (f) x))]
     | _=>[.abs (arA g n cc (swp f j (j-1)))]) rfl (by kernel_rfl) (by decide) rfl ?_
    refine sx rfl ⟨trivial,?_⟩
    refine sx rfl ⟨trivial,?_⟩
    refine sx rfl ⟨trivial,?_⟩
    refine sx rfl ⟨trivial,?_⟩
    refine sx rfl ⟨trivial,?_⟩
    rw [w64 (x:=(j:Int)-1) (by omega) (by omega),show (j:Int)-1=((j-1:Nat):Int) by omega]
    refine sx rfl ⟨trivial,?_⟩
    refine sx rfl ⟨trivial,?_⟩
    refine sx rfl ⟨trivial,?_⟩
    rw [w64 (x:=(j:Int)-1) (by omega) (by omega),show (j:Int)-1=((j-1:Nat):Int) by omega]
    refine sx rfl ⟨by omega,?_⟩
    rw [Int.toNat_natCast]
    refine SXr (.agg (Fld.c ((f) (j-1)))) 0 rfl rfl rfl rfl (X_loadP 0 (reads_vec (q:=j-1) (j:=0) (by omega) (by omega)) rfl rfl rfl rfl rfl rfl) ?_
    refine sx rfl ⟨trivial,?_⟩
    refine sx rfl ⟨trivial,?_⟩
    refine sx rfl ⟨by omega,?_⟩
    rw [Int.toNat_natCast]
    refine SXr (.agg (Fld.c ((f) (j)))) 0 rfl rfl rfl rfl (X_loadP 0 (reads_vec (q:=j) (j:=0) (by omega) (by omega)) rfl rfl rfl rfl rfl rfl) ?_
    refine sx rfl ⟨by omega,?_⟩
    rw [Int.toNat_natCast]
    refine SXw .bad 0 rfl rfl rfl rfl (X_storeV 0 (j) (row':=fun x=>Fld.c (if x=j then (f) (j-1) else (f) x)) rfl rfl rfl (by omega) rfl rfl rfl (by omega) rfl (fun x hx=>?_)) ?_
    ·by_cases hx2:x=j
     ·rw [if_pos hx2,if_pos hx2]
     ·rw [if_neg hx2,if_neg hx2]
    refine sx rfl ⟨by omega,?_⟩
    rw [Int.toNat_natCast]
    refine SXw .bad 1 rfl rfl rfl rfl (X_storeV 0 (j-1) (row':=fun x=>Fld.c ((swp f j (j-1)) x)) rfl rfl rfl (by omega) rfl rfl rfl (by omega) rfl (fun x hx=>?_)) ?_
    ·unfold swp
     by_cases hx1:x=j-1
     ·rw [if_pos hx1,if_pos hx1]
     ·rw [if_neg hx1,if_neg hx1]
    refine sx rfl ?_
    repeat (first|refine sc rfl ?_|refine so rfl ?_)
    rw [w64 (x:=(j:Int)-1) (by omega) (by omega),show (j:Int)-1=((j-1:Nat):Int) by omega]
    refine ⟨(j-1,swp f j (j-1)),⟨by simp only [];omega,by simp only [];omega,hp2.trans (swp_perm f (by omega) (by omega)),ins_step hI haj hj2 m2⟩,by simp only [];omega,Le.pick [0] ⟨rfl,rfl,rfl,rfl,rfl,rfl,trivial⟩ rfl⟩
   ·repeat (first|refine sc rfl ?_|refine so rfl ?_)
    rw [w64 (x:=(i:Int)+1) (by omega) (by omega)]
    refine ⟨(i+1,f),⟨by simp only [];omega,.inl (by simp only [];omega),hp2,ins_done hI hj1 hj2 (.inr (by simp only [];omega))⟩,by simp only [];omega,Le.pick [0] ⟨rfl,rfl,rfl,rfl,rfl,trivial⟩ rfl⟩
  ·repeat refine sd rfl ?_
   repeat refine sc rfl ?_
   refine C_false rfl rfl ?_
   repeat (first|refine sc rfl ?_|refine so rfl ?_)
   rw [w64 (x:=(i:Int)+1) (by omega) (by omega)]
   refine ⟨(i+1,f),⟨by simp only [];omega,.inl (by simp only [];omega),hp2,ins_done hI hj1 hj2 (.inl (by omega))⟩,by simp only [];omega,Le.pick [0] ⟨rfl,rfl,rfl,rfl,rfl,trivial⟩ rfl⟩
 ·repeat refine sc rfl ?_
  exact ⟨_,[_],_,rfl,.refl _,rfl,rfl,f1,rfl,hp,hs.sub (Nat.le_refl _) (by omega)⟩
end Go.Proofs

namespace Go.Proofs
open Go.Sy Go.Lib

theorem stable_A (g n cc:Nat) (hn:n≤39) (f:Nat→Fld) :
  FnA Tryz.prog 115 [.v (HD g n cc),I64 (n:Nat),cmpV] [arA g n cc f] (fun r cs'=>r=.tup []∧∃ f',cs'=[arA g n cc f']∧PermOn 0 n f f'∧Srt f' 0 n):=by
 refine fnA Tryz.func115 fun X=>?_
 repeat (first|refine sc rfl ?_|refine so rfl ?_)
 refine C_loop (fun q:Nat×(Nat→Fld)=>⟨[(0,.v (HD g n cc)),(1,I64 (n:Nat)),(2,cmpV),(6,I64 20),(7,I64 (q.1:Nat)),(8,I64 ((q.1+20:Nat):Int))],[.abs (arA g n cc q.2)]⟩)
  (fun q=>(q.1=0∧q.2=f)∨(q.1=20∧20≤n∧PermOn 0 n f q.2∧Srt q.2 0 20)) (fun q=>20-q.1) (0,f) (.inl ⟨rfl,rfl⟩) (Le.pick [0] ⟨rfl,rfl,rfl,rfl,rfl,rfl,trivial⟩ rfl) ?_
 rintro ⟨a,f1⟩ hI
 simp only [] at hI
 have ha:a≤20:=by rcases hI with h|h<;>omega
 have han:a≤n:=by rcases hI with h|h<;>omega
 repeat (first|refine sc rfl ?_|refine so rfl ?_)
 refine C_if rfl (fun m1=>?_) (fun m1=>?_)<;>simp only [pL] at m1
 ·have h20:a=0∧f1=f:=by
   rcases hI with h|h
   ·exact h
   ·omega
  obtain ⟨rfl,rfl⟩:=h20
  have hA:=insSort_A g n cc (by omega) 0 20 f1 (by omega) (by omega)
  repeat (first|refine sc rfl ?_|refine so rfl ?_)
  refine O_cA [0] hA ?_
  rintro r cs' ⟨rfl,f',rfl,p1,t1⟩
  repeat (first|refine sc rfl ?_|refine so rfl ?_)
  refine ⟨(20,f'),.inr ⟨rfl,by omega,p1.mono (Nat.le_refl _) (by omega),t1⟩,by simp only [];omega,Le.pick [0] ⟨rfl,rfl,rfl,rfl,rfl,rfl,trivial⟩ rfl⟩
 ·have hA:=insSort_A g n cc (by omega) a n f1 han (Nat.le_refl _)
  have hp0:PermOn 0 n f f1:=by
   rcases hI with ⟨_,rfl⟩|h
   ·exact .refl _ _ _
   ·exact h.2.2.1
  have hn20:a=20→Srt f1 0 20:=by
   intro h
   rcases hI with h2|h2
   ·omega
   ·exact h2.2.2.2
  have h0:a=0∨a=20:=by rcases hI with h|h<;>omega
  repeat (first|refine sc rfl ?_|refine so rfl ?_)
  refine O_cA [0] hA ?_
  rintro r cs' ⟨rfl,f2,rfl,p1,t1⟩
  repeat (first|refine sc rfl ?_|refine so rfl ?_)
  refine C_loop (fun q:Nat×(Nat→Fld)=>⟨[(0,.v (HD g n cc)),(1,I64 (n:Nat)),(2,cmpV),(6,I64 (q.1:Nat))],[.abs (arA g n cc q.2)]⟩)
   (fun q=>PermOn 0 n f q.2∧((q.1=20∧(20<n→Srt q.2 0 20∧Srt q.2 20 n)∧(n≤20→Srt q.2 0 n))∨(q.1=40∧Srt q.2 0 n))) (fun q=>40-q.1) (20,f2) ⟨hp0.trans (p1.mono (Nat.zero_le _) (Nat.le_refl _)),.inl ⟨rfl,?_,?_⟩⟩ (Le.pick [0] ⟨rfl,rfl,rfl,rfl,trivial⟩ rfl) ?_
  ·intro hlt
   have ha20:a=20:=by omega
   subst ha20
   exact ⟨(hn20 rfl).congr (fun x hx hy=>p1.out (by omega)),t1⟩
  ·intro hle
   rcases h0 with h|h
   ·subst h;exact t1
   ·subst h
    exact Srt.join (m:=20) ((hn20 rfl).congr (fun x hx hy=>p1.out (by omega))) t1 (fun x y _ _ _ _=>by omega)
  rintro ⟨bs,f3⟩ ⟨hp3,hI3⟩
  simp only [] at hp3 hI3
  have hbs:bs=20∨bs=40:=by rcases hI3 with h|h<;>omega
  repeat (first|refine sc rfl ?_|refine so rfl ?_)
  refine C_if rfl (fun m2=>?_) (fun m2=>?_)<;>simp only [pL] at m2
  ·have h20:bs=20:=by omega
   subst h20
   have hI4:Srt f3 0 20∧Srt f3 20 n:=by
    rcases hI3 with h|h
    ·exact h.2.1 (by omega)
    ·omega
   repeat (first|refine sc rfl ?_|refine so rfl ?_)
   refine C_loop (fun _:Unit=>⟨[(0,.v (HD g n cc)),(1,I64 (n:Nat)),(2,cmpV),(6,I64 20),(7,I64 0),(8,I64 40)],[.abs (arA g n cc f3)]⟩) (fun _=>True) (fun _=>0) () trivial (Le.pick [0] ⟨rfl,rfl,rfl,rfl,rfl,rfl,trivial⟩ rfl) ?_
   intro _ _
   repeat (first|refine sc rfl ?_|refine so rfl ?_)
   refine C_false rfl (by simp;omega) ?_
   repeat (first|refine sc rfl ?_|refine so rfl ?_)
   refine C_true rfl (by
    have h20:IntKind.i64.wrap (20:Int)=20:=rfl
    simp [h20];omega) ?_
   have hA:=symMerge_A g n cc (by omega) n 0 20 n f3 (by omega) (by omega) (by omega) (Nat.le_refl _) hI4.1 hI4.2
   repeat (first|refine sc rfl ?_|refine so rfl ?_)
   refine O_cA [0] hA ?_
   rintro r cs' ⟨rfl,f4,rfl,p4,t4⟩
   repeat (first|refine sc rfl ?_|refine so rfl ?_)
   exact ⟨(40,f4),⟨hp3.trans p4,.inr ⟨rfl,t4⟩⟩,by simp only [];omega,Le.pick [0] ⟨rfl,rfl,rfl,rfl,trivial⟩ rfl⟩
  ·repeat refine sc rfl ?_
   refine ⟨_,[_],_,rfl,.refl _,rfl,rfl,f3,rfl,hp3,?_⟩
   rcases hI3 with h|h
   ·exact h.2.2 (by omega)
   ·exact h.2

theorem Sort_A (g n cc:Nat) (hn:n≤39) (f:Nat→Fld) :
  FnA Tryz.prog 73 [.v (HD g n cc),cmpV] [arA g n cc f] (fun r cs'=>r=.tup []∧∃ f',cs'=[arA g n cc f']∧PermOn 0 n f f'∧Srt f' 0 n):=by
 refine fnA Tryz.func73 fun X=>?_
 repeat (first|refine sc rfl ?_|refine so rfl ?_)
 refine O_cA [0] (stable_A g n cc hn f) ?_
 rintro r cs' ⟨rfl,f',rfl,p1,t1⟩
 repeat refine so rfl ?_
 exact ⟨_,[_],_,rfl,.refl _,rfl,rfl,f',rfl,p1,t1⟩

abbrev nilH:AV:=.v (.slice none 0 0)
theorem insSort_nil:FnP Tryz.prog 143 [nilH,I64 0,I64 0,cmpV] (·=.tup []):=by
 refine fnP Tryz.func143 fun X=>?_
 repeat (first|refine sc rfl ?_|refine so rfl ?_)
 refine C_loop (fun _:Unit=>⟨[(2,I64 0),(8,I64 1)],[]⟩) (fun _=>True) (fun _=>0) () trivial (Le.sub [] ⟨rfl,rfl,trivial⟩ rfl) ?_
 intro _ _
 repeat (first|refine sc rfl ?_|refine so rfl ?_)
 refine C_false rfl rfl ?_
 repeat refine sc rfl ?_
 exact ⟨_,rfl,rfl,rfl⟩
theorem stable_nil:FnP Tryz.prog 115 [nilH,I64 0,cmpV] (·=.tup []):=by
 refine fnP Tryz.func115 fun X=>?_
 repeat (first|refine sc rfl ?_|refine so rfl ?_)
 refine C_loop (fun _:Unit=>⟨[(0,nilH),(1,I64 0),(2,cmpV),(6,I64 20),(7,I64 0),(8,I64 20)],[]⟩) (fun _=>True) (fun _=>0) () trivial (Le.sub [] ⟨rfl,rfl,rfl,rfl,rfl,rfl,trivial⟩ rfl) ?_
 intro _ _
 repeat (first|refine sc rfl ?_|refine so rfl ?_)
 refine C_false rfl rfl ?_
 repeat (first|refine sc rfl ?_|refine so rfl ?_)
 refine O_cP insSort_nil fun r hr=>?_
 subst hr
 repeat (first|refine sc rfl ?_|refine so rfl ?_)
 refine C_loop (fun _:Unit=>⟨[(1,I64 0),(6,I64 20)],[]⟩) (fun _=>True) (fun _=>0) () trivial (Le.sub [] ⟨rfl,rfl,trivial⟩ rfl) ?_
 intro _ _
 repeat (first|refine sc rfl ?_|refine so rfl ?_)
 refine C_false rfl rfl ?_
 repeat refine sc rfl ?_
 exact ⟨_,rfl,rfl,rfl⟩
theorem Sort_nil:FnP Tryz.prog 73 [nilH,cmpV] (·=.tup []):=by
 refine fnP Tryz.func73 fun X=>?_
 repeat (first|refine sc rfl ?_|refine so rfl ?_)
 refine O_cP stable_nil fun r hr=>?_
 subst hr
 repeat refine so rfl ?_
 exact ⟨_,rfl,rfl,rfl⟩
end Go.Proofs

namespace Go.Proofs
open Go.Sy Go.Lib

theorem Clone_FA (F:List Fld) (hF:F.length≤1000):FnA Tryz.prog 72 [SL 5 Fld.c F] [] (fun r cs'=>(r=nilH∧F=[]∧cs'=[])∨∃ g cc,r=.v (HD g F.length cc)∧cs'=[arA g F.length cc (fun i=>F.getD i default)]):=by
 refine fnA Tryz.func72 fun X=>?_
 repeat (first|refine sc rfl ?_|refine so rfl ?_)
 refine O_nilsl Tryz.underlying50 rfl rfl rfl (fun b hb=>?_)
 repeat refine so rfl ?_
 cases b with
 | true =>
  have h0:F=[]:=List.length_eq_zero_iff.1 (hb rfl)
  subst h0
  refine C_true rfl rfl ?_
  repeat (first|refine sc rfl ?_|refine so rfl ?_)
  exact ⟨_,[],_,rfl,.refl _,rfl,.inl ⟨rfl,rfl,rfl⟩⟩
 | false =>
  refine C_false rfl rfl ?_
  repeat refine sc rfl ?_
  refine O_empty (fun i=>Fld.c (F.getD i default)) rfl rfl rfl rfl rfl ?_
  repeat refine so rfl ?_
  refine O_append (m2:=F.length) (m3:=F.length) (row3:=fun i=>Fld.c (F.getD i default)) (s2:=[(0,SL 5 Fld.c F)]) rfl rfl rfl rfl rfl (src_sl rfl (fun i _=>rfl)) rfl ⟨rfl,trivial⟩ rfl rfl (by show (0+F.length)*72≤140737488355328;omega) (by show 0+F.length≤maxLen;simp only [maxLen];omega) (by omega) (fun i hi=>?_) ?_
  ·unfold appRow
   rw [if_neg (Nat.not_lt_zero _),Nat.sub_zero]
  ·refine O_absv 7 rfl rfl (fun h0=>?_) (fun g cc=>?_)
   ·repeat (first|refine sc rfl ?_|refine so rfl ?_)
    exact ⟨_,[],_,rfl,.refl _,rfl,.inl ⟨rfl,List.length_eq_zero_iff.1 h0,rfl⟩⟩
   ·repeat (first|refine sc rfl ?_|refine so rfl ?_)
    exact ⟨_,[_],_,rfl,.refl _,rfl,.inr ⟨g,cc,rfl,rfl⟩⟩

def SrtOf (F R:List Fld):Prop:=R.length=F.length∧PermOn 0 F.length (fun i=>F.getD i default) (fun i=>R.getD i default)∧Srt (fun i=>R.getD i default) 0 F.length
def esOf (l:List Dcl) (Rs:List (List Fld)):List (List UInt8×AV):=((l.map (·.name)).zip Rs).map fun q=>(q.1,SL 5 Fld.c q.2)
def RowsOK (l:List Dcl) (Rs:List (List Fld)):Prop:=Rs.length=l.length∧∀ i,i<l.length→SrtOf (l.getD i default).fields (Rs.getD i default)

abbrev dscA (b:Nat) (l:List Dcl) (o1 o2 o3:Value) (t m:AV):Abs:=boxA b 105 [SL 5 Dcl.c l,.v o1,.v o2,.v o3,t,m]

theorem esOf_look (nm:List UInt8):∀ (l:List Dcl) (Rs:List (List Fld)),Rs.length≤l.length→lookE nm (esOf l Rs)=(match fndL nm l with
  | none=>none
  | some j=>if j<Rs.length then some (SL 5 Fld.c (Rs.getD j default)) else none)
 | [],Rs,h=>by
  have:Rs=[]:=List.length_eq_zero_iff.1 (by simpa using h)
  subst this;rfl
 | d::l,[],h=>by
  simp only [esOf,List.zip_nil_right,List.map_nil,lookE]
  cases fndL nm (d::l)<;>simp
 | d::l,R::Rs,h=>by
  have ih:=esOf_look nm l Rs (by simpa using h)
  simp only [esOf,List.map_cons,List.zip_cons_cons,lookE,fndL]
  by_cases hd:d.name=nm
  ·simp [hd]
  ·rw [if_neg hd,if_neg hd]
   have:lookE nm (List.map (fun q=>(q.1,SL 5 Fld.c q.2)) ((l.map (·.name)).zip Rs))=lookE nm (esOf l Rs):=rfl
   rw [this,ih]
   cases fndL nm l with
   | none=>rfl
   | some j=>simp
theorem esOf_snoc (l:List Dcl) (Rs:List (List Fld)) (R:List Fld) (h:Rs.length<l.length):esOf l (Rs++[R])=esOf l Rs++[((l.getD Rs.length default).name,SL 5 Fld.c R)]:=by
 unfold esOf
 have e1:l.map (·.name)=(l.map (·.name)).take Rs.length++(l.getD Rs.length default).name::(l.map (·.name)).drop (Rs.length+1):=by
  rw [← List.map_take,← List.map_drop]
  conv=>lhs;rw [← List.take_append_drop Rs.length l,List.drop_eq_getElem_cons h]
  rw [List.map_append,List.map_cons,getD_at h]
 have e2:((l.map (·.name)).take Rs.length).length=Rs.length:=by simp;omega
 rw [e1,List.zip_append (by rw [e2])]
 conv=>rhs;rw [show Rs=Rs++[] by simp,List.zip_append (by simp;omega)]
 simp

theorem ready1_A (b:Nat) (l:List Dcl) (hl:FewL l) (h30:∀ i,i<l.length→(l.getD i default).fields.length≤39) (hW:∀ i,i<l.length→fndL (l.getD i default).name l=some i) (o1 o2 o3:Value) (t0 m0:AV) (ht:t0.imm=true) (hm:m0.imm=true) :
  FnA Tryz.prog 71 [.cp [PT b 0]] [dscA b l o1 o2 o3 t0 m0] (fun r cs'=>r=.tup []∧∃ Rs,RowsOK l Rs∧cs'=[dscA b l o1 o2 o3 (tabV l) (mapE S (esOf l Rs))]):=by
 refine fnA Tryz.func71 fun X=>?_
 have hlen:=hl.1
 repeat refine sc rfl ?_
 refine C_drawU 20 6 rfl (by kernel_rfl) (by kernel_rfl) (by kernel_rfl) ?_
 repeat refine sd rfl ?_
 refine D_X (SL 5 Dcl.c l) (X_loadP 0 (reads_box 0) rfl rfl rfl rfl rfl rfl) ?_
 refine D_call (Of_w l hl.1) rfl rfl rfl rfl ?_
 repeat refine sd rfl ?_
 repeat refine so rfl ?_
 refine O_Xn (X_storeP 0 (writes_box (by show 4<6;decide)) rfl rfl rfl rfl rfl rfl rfl) ?_
 repeat (first|refine sc rfl ?_|refine so rfl ?_)
 refine O_makeMap S rfl (fun mb=>?_)
 repeat refine so rfl ?_
 refine O_Xn (X_storeP 1 (writes_box (by show 5<6;decide)) rfl rfl rfl rfl rfl rfl rfl) ?_
 repeat (first|refine sc rfl ?_|refine so rfl ?_)
 refine O_loadP 0 (reads_box 0) rfl rfl rfl rfl rfl rfl ?_
 repeat (first|refine sc rfl ?_|refine so rfl ?_)
 refine C_loop (fun q:Nat×List (List Fld)=>⟨[(0,.cp [PT b 0]),(19,SL 5 Dcl.c l),(20,I64 (l.length:Nat)),(21,I64 (q.1:Nat))],[.abs (dscA b l o1 o2 o3 (tabV l) (.v (.map (some mb)))),.abs (mapA S (some mb) (esOf l q.2))]⟩)
  (fun q=>q.1≤l.length∧q.2.length=q.1∧∀ i,i<q.1→SrtOf (l.getD i default).fields (q.2.getD i default)) (fun q=>l.length-q.1) (0,[]) ⟨Nat.zero_le _,rfl,fun i hi=>absurd hi (Nat.not_lt_zero _)⟩ ?_ ?_
 ·have:esOf l []=[]:=by unfold esOf;simp
  rw [this]
  exact Le.pick [0,0] ⟨rfl,rfl,rfl,rfl,trivial⟩ rfl
 rintro ⟨k,Rs⟩ ⟨hk,hRl,hR⟩
 simp only [] at hk hRl hR
 repeat (first|refine sc rfl ?_|refine so rfl ?_)
 refine C_if rfl (fun m1=>?_) (fun m1=>?_)<;>simp only [pL] at m1
 ·have hkl:k<l.length:=by omega
  have hnew:lookE (l.getD k default).name (esOf l Rs)=none:=by
   rw [esOf_look _ _ _ (by omega),hW k hkl]
   simp only []
   rw [if_neg (by omega)]
  have hnext:∀ R,SrtOf (l.getD k default).fields R→(Rs++[R]).length=k+1∧(∀ i,i<k+1→SrtOf (l.getD i default).fields ((Rs++[R]).getD i default))∧updE (l.getD k default).name (SL 5 Fld.c R) (esOf l Rs)=esOf l (Rs++[R]):=fun R hS=>by
   refine ⟨by simp [hRl],fun i hi=>?_,?_⟩
   ·by_cases hik:i<k
    ·have:(Rs++[R]).getD i default=Rs.getD i default:=by
      rw [List.getD_eq_getElem?_getD,List.getD_eq_getElem?_getD,List.getElem?_append_left (by omega)]
     rw [this];exact hR i hik
    ·obtain rfl:i=k:=by omega
     have:(Rs++[R]).getD i default=R:=by
      rw [List.getD_eq_getElem?_getD,List.getElem?_append_right (by omega),hRl,Nat.sub_self];rfl
     rw [this];exact hS
   ·rw [updE_new hnew,esOf_snoc l Rs R (by omega),hRl]
  repeat (first|refine sc rfl ?_|refine so rfl ?_)
  refine ⟨by omega,?_⟩
  rw [Int.toNat_natCast]
  repeat (first|refine sc rfl ?_|refine so rfl ?_)
  refine O_cA [] (Clone_FA (l.getD k default).fields (hl.2 k hkl).f.1) ?_
  rintro r cs' (⟨rfl,hF0,rfl⟩|⟨g,cc,rfl,rfl⟩)
  ·repeat (first|refine sc rfl ?_|refine so rfl ?_)
   refine O_cP Sort_nil fun r hr=>?_
   subst hr
   refine so rfl ?_
   refine C_le _ (Le.conv 3 (y:=SL 5 Fld.c []) rfl (fun e v h=>by simp only [Rep] at h ⊢;exact repI_nil (by simpa only [RepI] using h))) ?_
   repeat refine sc rfl ?_
   refine C_drawU 20 7 rfl (by kernel_rfl) (by kernel_rfl) (by kernel_rfl) ?_
   repeat refine sd rfl ?_
   refine D_X (.v (.map (some mb))) (X_loadP 1 (reads_box 5) rfl rfl rfl rfl rfl rfl) ?_
   repeat refine sd rfl ?_
   refine O_Xn (X_updS 2 sK Tryz.underlying103 sameBits_str (fun e v h=>kS e h) rfl rfl rfl rfl rfl rfl) ?_
   repeat (first|refine sc rfl ?_|refine so rfl ?_)
   rw [w64 (x:=(k:Int)+1) (by omega) (by omega)]
   obtain ⟨u1,u2,u3⟩:=hnext [] (by rw [hF0];exact ⟨rfl,.refl _ _ _,fun p q _ _ h=>absurd h (Nat.not_lt_zero _)⟩)
   refine ⟨(k+1,Rs++[[]]),⟨by simp only [];omega,u1,u2⟩,by simp only [];omega,?_⟩
   simp only [← u3]
   exact Le.pick [2,0] ⟨rfl,rfl,rfl,rfl,trivial⟩ rfl
  ·have hS:=Sort_A g (l.getD k default).fields.length cc (h30 k hkl) (fun i=>(l.getD k default).fields.getD i default)
   repeat (first|refine sc rfl ?_|refine so rfl ?_)
   refine O_cA [0] hS ?_
   rintro r cs' ⟨rfl,f',rfl,p1,t1⟩
   refine so rfl ?_
   have hRl2:((List.range (l.getD k default).fields.length).map f').length=(l.getD k default).fields.length:=by simp
   have hRg:∀ i,i<(l.getD k default).fields.length→((List.range (l.getD k default).fields.length).map f').getD i default=f' i:=fun i hi=>by
    rw [List.getD_eq_getElem?_getD,List.getElem?_map,List.getElem?_range hi];rfl
   have hSO:SrtOf (l.getD k default).fields ((List.range (l.getD k default).fields.length).map f'):=by
    refine ⟨hRl2,?_,fun p q hp hpq hq=>?_⟩
    ·obtain ⟨p,r,k1,k2⟩:=p1
     refine ⟨p,r,fun i ha hb=>?_,fun i hi=>?_⟩
     ·obtain ⟨v1,v2,v3,v4,v5⟩:=k1 i ha hb
      exact ⟨v1,v2,v3,v4,by simp only [];rw [hRg i hb];exact v5⟩
     ·simp only []
      rw [List.getD_eq_getElem?_getD,List.getElem?_eq_none (by rw [hRl2];omega),List.getD_eq_getElem?_getD,List.getElem?_eq_none (by omega)]
    ·simp only []
     rw [hRg p (by omega),hRg q hq];exact t1 p q hp hpq hq
   generalize hRdef:(List.range (l.getD k default).fields.length).map f'=R at *
   refine C_le _ (Le.frVec 0 (fun i=>Fld.c (R.getD i default)) rfl (fun i hi=>by rw [hRg i hi])) ?_
   refine C_le _ (Le.slotA 0 3 rfl rfl) ?_
   refine C_le _ (Le.conv 3 (y:=SL 5 Fld.c R) rfl (fun e v h=>by
    show Rep e (.sl R.length 5 (fun i=>Fld.c (R.getD i default))) v
    rw [hRl2];exact h)) ?_
   repeat refine sc rfl ?_
   refine C_drawU 20 7 rfl (by kernel_rfl) (by kernel_rfl) (by kernel_rfl) ?_
   repeat refine sd rfl ?_
   refine D_X (.v (.map (some mb))) (X_loadP 2 (reads_box 5) rfl rfl rfl rfl rfl rfl) ?_
   repeat refine sd rfl ?_
   refine O_Xn (X_updS 3 sK Tryz.underlying103 sameBits_str (fun e v h=>kS e h) rfl rfl rfl rfl rfl rfl) ?_
   repeat (first|refine sc rfl ?_|refine so rfl ?_)
   rw [w64 (x:=(k:Int)+1) (by omega) (by omega)]
   obtain ⟨u1,u2,u3⟩:=hnext R hSO
   refine ⟨(k+1,Rs++[R]),⟨by simp only [];omega,u1,u2⟩,by simp only [];omega,?_⟩
   simp only [← u3]
   exact Le.pick [3,0] ⟨rfl,rfl,rfl,rfl,trivial⟩ rfl
 ·obtain rfl:k=l.length:=by omega
  refine C_le _ (Le.frMap 1 rfl) ?_
  refine C_le _ (Le.cellA 1 0 5 rfl rfl) ?_
  repeat refine sc rfl ?_
  refine ⟨_,[_],_,rfl,.refl _,rfl,rfl,Rs,⟨hRl,hR⟩,rfl⟩
end Go.Proofs

namespace Go.Proofs
open Go.Sy Go.Lib

noncomputable def B32_F (x:Bool):Option (Int) :=
 cond x (some 1) (some 0)
theorem B32_w (x:Bool) (r:Int) (h:B32_F x=some r):FnP Tryz.prog 159 [B x] (·=.v (.int .u32 r)):=by
 unfold B32_F at h
 refine fnP Tryz.func159 fun X=>?_
 iterate 2 refine sc rfl ?_
 refine so rfl ?_
 refine so rfl ?_
 iterate 3 refine sc rfl ?_
 refine so rfl ?_
 refine so rfl ?_
 refine C_if rfl (fun hb1=>?_) (fun hb1=>?_)
 ·replace h:=cT hb1 h
  iterate 2 refine sc rfl ?_
  refine so rfl ?_
  refine so rfl ?_
  refine sc rfl ?_
  obtain rfl:=osi h
  exact ⟨_,rfl,rfl,rfl⟩
 ·replace h:=cF hb1 h
  iterate 3 refine sc rfl ?_
  refine so rfl ?_
  refine so rfl ?_
  refine sc rfl ?_
  obtain rfl:=osi h
  exact ⟨_,rfl,rfl,rfl⟩
end Go.Proofs

namespace Go.Proofs
open Go.Sy Go.Lib

theorem Load_A (b:Nat) (l:List Dcl) (y:Int) (o2 o3:Value) (t m:AV):FnA Tryz.prog 113 [PT b 1] [dscA b l (.int .u32 y) o2 o3 t m] (fun r cs'=>r=B (y != 0)∧cs'=[dscA b l (.int .u32 y) o2 o3 t m]):=by
 refine fnA Tryz.func113 fun X=>?_
 repeat (first|refine sc rfl ?_|refine so rfl ?_)
 refine O_Xd (X_aload 0 Tryz.func139 (by kernel_rfl) (by kernel_rfl) (by kernel_rfl) .u32 (by kernel_rfl) (y:=y) rfl rfl rfl rfl rfl) ?_
 repeat (first|refine sc rfl ?_|refine so rfl ?_)
 exact ⟨_,[_],_,rfl,.refl _,rfl,rfl,rfl⟩

theorem Lock_A (b:Nat) (l:List Dcl) (o1 o3:Value) (t m:AV):FnA Tryz.prog 156 [PT b 2] [dscA b l o1 (.int .i32 0) o3 t m] (fun r cs'=>r=.tup []∧cs'=[dscA b l o1 (.int .i32 1) o3 t m]):=by
 refine fnA Tryz.func156 fun X=>?_
 repeat refine sc rfl ?_
 refine O_Xd (X_mark0 Tryz.func169 (by kernel_rfl) (by kernel_rfl) (by kernel_rfl) .disable (by kernel_rfl) rfl rfl) ?_
 repeat (first|refine sc rfl ?_|refine so rfl ?_)
 refine O_Xd (X_acas 0 Tryz.func170 (by kernel_rfl) (by kernel_rfl) (by kernel_rfl) .i32 (by kernel_rfl) (y:=0) (z:=1) rfl rfl rfl rfl rfl rfl rfl) ?_
 repeat refine so rfl ?_
 refine C_true rfl rfl ?_
 repeat refine sc rfl ?_
 refine C_true rfl rfl ?_
 repeat refine sc rfl ?_
 refine O_Xd (X_mark0 Tryz.func171 (by kernel_rfl) (by kernel_rfl) (by kernel_rfl) .enable (by kernel_rfl) rfl rfl) ?_
 repeat (first|refine sc rfl ?_|refine so rfl ?_)
 refine O_Xd (X_unsafe 0 (v:=.int .i32 1) Tryz.underlying254 Tryz.underlying234 (by kernel_rfl) rfl rfl rfl rfl rfl) ?_
 repeat refine sc rfl ?_
 refine O_Xd (X_marked Tryz.func172 (by kernel_rfl) (by kernel_rfl) (by kernel_rfl) .acquire (by kernel_rfl) rfl rfl rfl) ?_
 repeat (first|refine sc rfl ?_|refine so rfl ?_)
 exact ⟨_,[_],_,rfl,.refl _,rfl,rfl,rfl⟩

theorem Lock2_A (b:Nat) (l:List Dcl) (o1 o3:Value) (t m:AV):FnA Tryz.prog 140 [PT b 2] [dscA b l o1 (.int .i32 0) o3 t m] (fun r cs'=>r=.tup []∧cs'=[dscA b l o1 (.int .i32 1) o3 t m]):=by
 refine fnA Tryz.func140 fun X=>?_
 repeat (first|refine sc rfl ?_|refine so rfl ?_)
 refine O_cA [0] (Lock_A b l o1 o3 t m) ?_
 rintro r cs' ⟨rfl,rfl⟩
 repeat refine so rfl ?_
 exact ⟨_,[_],_,rfl,.refl _,rfl,rfl,rfl⟩

theorem Unlock_A (b:Nat) (l:List Dcl) (o1 o3:Value) (t m:AV):FnA Tryz.prog 157 [PT b 2] [dscA b l o1 (.int .i32 1) o3 t m] (fun r cs'=>r=.tup []∧cs'=[dscA b l o1 (.int .i32 0) o3 t m]):=by
 refine fnA Tryz.func157 fun X=>?_
 repeat refine sc rfl ?_
 refine C_true rfl rfl ?_
 repeat (first|refine sc rfl ?_|refine so rfl ?_)
 refine O_loadP 0 (reads_box 2) rfl rfl rfl rfl rfl rfl ?_
 repeat (first|refine sc rfl ?_|refine so rfl ?_)
 refine O_Xd (X_unsafe 0 (v:=.int .i32 1) Tryz.underlying254 Tryz.underlying234 (by kernel_rfl) rfl rfl rfl rfl rfl) ?_
 repeat refine sc rfl ?_
 refine O_Xd (X_marked Tryz.func174 (by kernel_rfl) (by kernel_rfl) (by kernel_rfl) .releaseMerge (by kernel_rfl) rfl rfl rfl) ?_
 repeat (first|refine sc rfl ?_|refine so rfl ?_)
 refine O_Xd (X_mark0 Tryz.func169 (by kernel_rfl) (by kernel_rfl) (by kernel_rfl) .disable (by kernel_rfl) rfl rfl) ?_
 repeat (first|refine sc rfl ?_|refine so rfl ?_)
 refine O_Xd (X_aadd 0 Tryz.func175 (by kernel_rfl) (by kernel_rfl) (by kernel_rfl) .i32 (by kernel_rfl) (y:=1) (z:=-1) (s:=0) (fun w=>by rfl) rfl rfl rfl rfl rfl rfl) ?_
 repeat (first|refine sc rfl ?_|refine so rfl ?_)
 refine C_false rfl rfl ?_
 repeat refine sc rfl ?_
 refine O_Xd (X_mark0 Tryz.func171 (by kernel_rfl) (by kernel_rfl) (by kernel_rfl) .enable (by kernel_rfl) rfl rfl) ?_
 repeat refine so rfl ?_
 exact ⟨_,[_],_,rfl,.refl _,rfl,rfl,rfl⟩

theorem Unlock_D (b:Nat) (l:List Dcl) (o1 o3:Value) (t m:AV):FnD Tryz.prog 141 [PT b 2] [dscA b l o1 (.int .i32 1) o3 t m] (fun r cs'=>r=.tup []∧cs'=[dscA b l o1 (.int .i32 0) o3 t m]):=by
 refine FnD.intro Tryz.tabOK Tryz.wide_ Tryz.func141 rfl (by decide) rfl (fun X=>?_)
 repeat (first|refine sc rfl ?_|refine so rfl ?_)
 refine O_cA [0] (Unlock_A b l o1 o3 t m) ?_
 rintro r cs' ⟨rfl,rfl⟩
 repeat refine so rfl ?_
 exact ⟨_,[_],_,rfl,.refl _,rfl,rfl,rfl⟩

theorem Store_D (b:Nat) (l:List Dcl) (o1 o2 o3:Value) (t m:AV):FnD Tryz.prog 142 [PT b 1,B true] [dscA b l o1 o2 o3 t m] (fun r cs'=>r=.tup []∧cs'=[dscA b l (.int .u32 1) o2 o3 t m]):=by
 refine FnD.intro Tryz.tabOK Tryz.wide_ Tryz.func142 rfl (by decide) rfl (fun X=>?_)
 repeat refine sc rfl ?_
 refine C_drawU 20 5 rfl (by kernel_rfl) (by kernel_rfl) (by kernel_rfl) ?_
 repeat refine sd rfl ?_
 refine D_call (B32_w true 1 rfl) rfl rfl rfl rfl ?_
 repeat refine sd rfl ?_
 refine O_Xd (X_astore 0 Tryz.func158 (by kernel_rfl) (by kernel_rfl) (by kernel_rfl) (by kernel_rfl) (k:=.u32) (z:=1) rfl rfl rfl rfl rfl rfl) ?_
 repeat refine so rfl ?_
 exact ⟨_,[_],_,rfl,.refl _,rfl,rfl,rfl⟩
end Go.Proofs

namespace Go.Proofs
open Go.Sy Go.Lib

theorem Tryz.ntmps76_:Tryz.f114.ntmps=21:=by kernel_rfl

set_option maxHeartbeats 1600000 in
theorem doSlow_A (b:Nat) (l:List Dcl) (hl:FewL l) (h30:∀ i,i<l.length→(l.getD i default).fields.length≤39) (hW:∀ i,i<l.length→fndL (l.getD i default).name l=some i) (o3:Value) (t0 m0:AV) (ht:t0.imm=true) (hm:m0.imm=true) :
  FnA Tryz.prog 114 [PT b 1,.p (cloRP 71 [.cp [PT b 0]])] [dscA b l (.int .u32 0) (.int .i32 0) o3 t0 m0] (fun r cs'=>r=.tup []∧∃ Rs,RowsOK l Rs∧cs'=[dscA b l (.int .u32 1) (.int .i32 0) o3 (tabV l) (mapE S (esOf l Rs))]):=by
 refine ⟨⟨Tryz.f114,Tryz.func114,by kernel_rfl,by kernel_rfl⟩,?_⟩
 intro G w cargs him hrep hcs
 simp only [RepIT] at hrep
 obtain ⟨p,ps,rfl,hp,c0,cs0,rfl,hc,rfl⟩:=hrep
 simp only [RepI] at hp
 subst hp
 obtain ⟨vs,rfl,hvs⟩:=isClo_p 71 [.cp [PT b 0]] G _ hc
 have hlock:=(Lock2_A b l (.int .u32 0) o3 t0 m0).2 G w [.pointer (some ⟨b,2,none⟩)] him (by simp only [RepIT,RepI];exact ⟨_,_,rfl,rfl,rfl⟩) hcs
 go_enter_defers Tryz.func114,Tryz.ntmps76_
 go_wp2_with (go_at_call 140;refine hlock.mono ?_;rintro e w1 ⟨r,cr,cs1,G1,⟨rfl,rfl⟩,rfl,hcr,T1⟩)
 have T1':TrA G w _ G1 w1 [dscA b l (.int .u32 0) (.int .i32 1) o3 t0 m0]:=T1
 have hload:=(Load_A b l 0 (.int .i32 1) o3 t0 m0).2 G1 w1 [.pointer (some ⟨b,1,none⟩)] T1'.2.2.1 (by simp only [RepIT,RepI];exact ⟨_,_,rfl,rfl,rfl⟩) T1'.2.2.2.1
 refine hload.mono ?_
 rintro e2 w2 ⟨r2,cr2,cs2,G2,⟨rfl,rfl⟩,rfl,hcr2,T2⟩
 have T2':TrA G1 w1 [dscA b l (.int .u32 0) (.int .i32 1) o3 t0 m0] G2 w2 [dscA b l (.int .u32 0) (.int .i32 1) o3 t0 m0]:=T2
 have T12:=T1'.trans T2'
 simp only [RepI] at hcr2
 obtain rfl:cr2=.bool false:=hcr2
 have hvs2:RepIT G2 [.cp [PT b 0]] vs.toList:=RepIT.mono T12.1 _ hvs
 have hrd:=(ready1_A b l hl h30 hW (.int .u32 0) (.int .i32 1) o3 t0 m0 ht hm).2 G2 w2 vs.toList T12.2.2.1 hvs2 T12.2.2.2.1
 have hnot:∀ (x:Bool) (w:World),(Op.unary .not (.bool x)).run Tryz.prog w=.ok (.bool (!x)) w:=fun _ _=>rfl
 have evs:vs.toList.toArray=vs:=by simp
 rw [evs] at hrd
 go_wp2_with (go_at_call 71;refine hrd.mono ?_;rintro e3 w3 ⟨r3,cr3,cs3,G3,⟨rfl,Rs,hRs,rfl⟩,rfl,hcr3,T3⟩)
 have T3':TrA G2 w2 [dscA b l (.int .u32 0) (.int .i32 1) o3 t0 m0] G3 w3 [dscA b l (.int .u32 0) (.int .i32 1) o3 (tabV l) (mapE S (esOf l Rs))]:=T3
 have T13:=T12.trans T3'
 refine leaves_cons (f:=142) (args:=#[.pointer (some ⟨b,1,none⟩),.bool true]) (by simp) (by simp [go_sem]) ?_
 refine ((Store_D b l (.int .u32 0) (.int .i32 1) o3 (tabV l) (mapE S (esOf l Rs))).2 .returning G3 w3 [.pointer (some ⟨b,1,none⟩),.bool true] T13.2.2.1 (by simp only [RepIT,RepI];exact ⟨_,_,rfl,rfl,_,_,rfl,rfl,rfl⟩) T13.2.2.2.1).mono ?_
 rintro e4 u4 w4 ⟨rfl,r4,cr4,cs4,G4,⟨rfl,rfl⟩,rfl,hcr4,T4⟩
 have T4':TrA G3 w3 [dscA b l (.int .u32 0) (.int .i32 1) o3 (tabV l) (mapE S (esOf l Rs))] G4 w4 [dscA b l (.int .u32 1) (.int .i32 1) o3 (tabV l) (mapE S (esOf l Rs))]:=T4
 have T14:=T13.trans T4'
 refine leaves_cons (f:=141) (args:=#[.pointer (some ⟨b,2,none⟩)]) (by simp [settle]) (by simp [go_sem]) ?_
 refine ((Unlock_D b l (.int .u32 1) o3 (tabV l) (mapE S (esOf l Rs))).2 _ G4 w4 [.pointer (some ⟨b,2,none⟩)] T14.2.2.1 (by simp only [RepIT,RepI];exact ⟨_,_,rfl,rfl,rfl⟩) T14.2.2.2.1).mono ?_
 rintro e5 u5 w5 ⟨rfl,r5,cr5,cs5,G5,⟨rfl,rfl⟩,rfl,hcr5,T5⟩
 have T5':TrA G4 w4 [dscA b l (.int .u32 1) (.int .i32 1) o3 (tabV l) (mapE S (esOf l Rs))] G5 w5 [dscA b l (.int .u32 1) (.int .i32 0) o3 (tabV l) (mapE S (esOf l Rs))]:=T5
 have T15:=T14.trans T5'
 exact ⟨.tuple #[],results_none rfl _ _ _,.tup [],_,_,G5,⟨rfl,Rs,hRs,rfl⟩,rfl,by simp only [RepI,RepIT];exact ⟨_,rfl,rfl⟩,T15⟩
end Go.Proofs

namespace Go.Proofs
open Go.Sy Go.Lib

structure Prep (l:List Dcl):Prop where
 few:FewL l
 f39:∀ i,i<l.length→(l.getD i default).fields.length≤39
 uni:∀ i,i<l.length→fndL (l.getD i default).name l=some i

def dsc (b:Nat) (l:List Dcl):Option (List (List Fld))→Abs
 | none=>dscA b l (.int .u32 0) (.int .i32 0) (.int .u32 0) (.v (.pointer none)) (.v (.map none))
 | some Rs=>dscA b l (.int .u32 1) (.int .i32 0) (.int .u32 0) (tabV l) (mapE S (esOf l Rs))
def Rdy (l:List Dcl) (q:Option (List (List Fld))):Prop:=∀ Rs,q=some Rs→RowsOK l Rs

theorem Do_A (b:Nat) (l:List Dcl) (hP:Prep l) (q:Option (List (List Fld))) (hq:Rdy l q) :
  FnA Tryz.prog 70 [PT b 1,.p (cloRP 71 [.cp [PT b 0]])] [dsc b l q] (fun r cs'=>r=.tup []∧∃ Rs,RowsOK l Rs∧cs'=[dsc b l (some Rs)]):=by
 refine fnA Tryz.func70 fun X=>?_
 cases q with
 | none =>
  have hS:=doSlow_A b l hP.few hP.f39 hP.uni (.int .u32 0) (.v (.pointer none)) (.v (.map none)) rfl rfl
  repeat (first|refine sc rfl ?_|refine so rfl ?_)
  refine O_cA [0] (Load_A b l 0 (.int .i32 0) (.int .u32 0) (.v (.pointer none)) (.v (.map none))) ?_
  rintro r cs' ⟨rfl,rfl⟩
  repeat refine so rfl ?_
  refine C_true rfl rfl ?_
  repeat (first|refine sc rfl ?_|refine so rfl ?_)
  refine O_cA [0] hS ?_
  rintro r cs' ⟨rfl,Rs,hRs,rfl⟩
  repeat refine so rfl ?_
  exact ⟨_,[_],_,rfl,.refl _,rfl,rfl,Rs,hRs,rfl⟩
 | some Rs =>
  repeat (first|refine sc rfl ?_|refine so rfl ?_)
  refine O_cA [0] (Load_A b l 1 (.int .i32 0) (.int .u32 0) (tabV l) (mapE S (esOf l Rs))) ?_
  rintro r cs' ⟨rfl,rfl⟩
  repeat refine so rfl ?_
  refine C_false rfl rfl ?_
  repeat refine sc rfl ?_
  exact ⟨_,[_],_,rfl,.refl _,rfl,rfl,Rs,hq Rs rfl,rfl⟩

theorem ready_A (b:Nat) (l:List Dcl) (hP:Prep l) (q:Option (List (List Fld))) (hq:Rdy l q) :
  FnA Tryz.prog 35 [PT b 0] [dsc b l q] (fun r cs'=>r=.tup []∧∃ Rs,RowsOK l Rs∧cs'=[dsc b l (some Rs)]):=by
 refine fnA Tryz.func35 fun X=>?_
 iterate 4 (first|refine sc rfl ?_|refine so rfl ?_)
 refine C_le _ (Le.freezebox 1 rfl rfl rfl) ?_
 repeat (first|refine sc rfl ?_|refine so rfl ?_)
 refine O_makeFunc rfl rfl rfl rfl ?_
 repeat refine sc rfl ?_
 refine O_cA [0] (Do_A b l hP q hq) ?_
 rintro r cs' ⟨rfl,Rs,hRs,rfl⟩
 repeat refine so rfl ?_
 exact ⟨_,[_],_,rfl,.refl _,rfl,rfl,Rs,hRs,rfl⟩

theorem DKind_A (b:Nat) (l:List Dcl) (hP:Prep l) (q:Option (List (List Fld))) (hq:Rdy l q) (nm:List UInt8) :
  FnA Tryz.prog 22 [PT b 0,.s nm] [dsc b l q] (fun r cs'=>r=I64 (kindL l nm)∧∃ Rs,RowsOK l Rs∧cs'=[dsc b l (some Rs)]):=by
 refine fnA Tryz.func22 fun X=>?_
 repeat (first|refine sc rfl ?_|refine so rfl ?_)
 refine O_Xd (X_ptrnil Tryz.underlying32 rfl rfl rfl) ?_
 repeat refine so rfl ?_
 refine C_false rfl rfl ?_
 repeat (first|refine sc rfl ?_|refine so rfl ?_)
 refine O_cA [0] (ready_A b l hP q hq) ?_
 rintro r cs' ⟨rfl,Rs,hRs,rfl⟩
 repeat (first|refine sc rfl ?_|refine so rfl ?_)
 refine O_loadP 0 (A:=dsc b l (some Rs)) (reads_box 4) rfl rfl rfl rfl rfl rfl ?_
 repeat refine so rfl ?_
 refine O_cP (Kind_c l nm) fun r hr=>?_
 subst hr
 repeat (first|refine sc rfl ?_|refine so rfl ?_)
 exact ⟨_,[_],_,rfl,.refl _,rfl,rfl,Rs,hRs,rfl⟩

def rowsL (l:List Dcl) (Rs:List (List Fld)) (nm:List UInt8):List Fld:=match fndL nm l with
 | none=>[]
 | some j=>Rs.getD j default

theorem PermOn.mem {F R:List Fld} (h:SrtOf F R):∀ i,i<R.length→∃ j,j<F.length∧R.getD i default=F.getD j default:=fun i hi=>by
 obtain ⟨h1,h2,_⟩:=h
 obtain ⟨j,_,k2,k3⟩:=h2.at_ (Nat.zero_le i) (by omega)
 exact ⟨j,k2,k3⟩
theorem SrtOf.few {F R:List Fld} (h:SrtOf F R) (hF:FewF F):FewF R:=⟨by rw [h.1];exact hF.1,fun i hi=>by
 obtain ⟨j,h1,h2⟩:=PermOn.mem h i hi
 rw [h2];exact hF.2 j h1⟩

theorem DRows_A (b:Nat) (l:List Dcl) (hP:Prep l) (q:Option (List (List Fld))) (hq:Rdy l q) (nm:List UInt8) :
  FnA Tryz.prog 29 [PT b 0,.s nm] [dsc b l q] (fun r cs'=>∃ Rs,RowsOK l Rs∧r=SL 5 Fld.c (rowsL l Rs nm)∧cs'=[dsc b l (some Rs)]):=by
 refine fnA Tryz.func29 fun X=>?_
 repeat (first|refine sc rfl ?_|refine so rfl ?_)
 refine O_Xd (X_ptrnil Tryz.underlying32 rfl rfl rfl) ?_
 repeat refine so rfl ?_
 refine C_false rfl rfl ?_
 repeat (first|refine sc rfl ?_|refine so rfl ?_)
 refine O_cA [0] (ready_A b l hP q hq) ?_
 rintro r cs' ⟨rfl,Rs,hRs,rfl⟩
 have hlook:lookE nm (esOf l Rs)=(fndL nm l).map fun j=>SL 5 Fld.c (Rs.getD j default):=by
  rw [esOf_look nm l Rs (Nat.le_of_eq hRs.1)]
  cases hf:fndL nm l with
  | none=>rfl
  | some j=>simp only [Option.map_some];rw [if_pos (by rw [hRs.1];exact fndL_lt hf)]
 repeat (first|refine sc rfl ?_|refine so rfl ?_)
 refine O_loadP 0 (A:=dsc b l (some Rs)) (reads_box 5) rfl rfl rfl rfl rfl rfl ?_
 repeat refine so rfl ?_
 refine O_Xd (X_lookIS (z:=nilH) sK Tryz.underlying103 rfl rfl (fun e=>by simp only [Rep]) rfl (fun e v h=>kS e h) rfl rfl rfl rfl) ?_
 rw [hlook]
 cases hf:fndL nm l with
 | none =>
  have hfs:=fields_c [] ⟨Nat.zero_le _,fun i hi=>absurd hi (Nat.not_lt_zero _)⟩
  simp only [lookAV,cond_false,Option.map_none,Option.getD_none]
  refine O_le _ (Le.conv 14 (y:=SL 5 Fld.c []) rfl (fun e v h=>by simp only [Rep] at h ⊢;exact repI_nil (by simpa only [RepI] using h))) ?_
  refine O_cP hfs fun r hr=>?_
  subst hr
  repeat (first|refine sc rfl ?_|refine so rfl ?_)
  exact ⟨_,[_],_,rfl,.refl _,rfl,Rs,hRs,by simp [rowsL,hf],rfl⟩
 | some j =>
  have hj:=fndL_lt hf
  have hfs:=fields_c (Rs.getD j default) ((hRs.2 j hj).few (hP.few.2 j hj).f)
  simp only [lookAV,cond_false,Option.map_some,Option.getD_some]
  refine O_cP hfs fun r hr=>?_
  subst hr
  repeat (first|refine sc rfl ?_|refine so rfl ?_)
  exact ⟨_,[_],_,rfl,.refl _,rfl,Rs,hRs,by simp [rowsL,hf],rfl⟩
end Go.Proofs

namespace Go.Proofs
open Go.Sy Go.Lib

theorem small_c:∀ (n:Nat) (t:Ty) (deep:Int),SizeOf.sizeOf t≤n→FnP Tryz.prog 17 [.agg (Ty.c t),I64 deep] (fun r=>∃ g,r=B g∧(g=true→FewT t))
 | 0,t,deep,h=>by cases t;simp at h
 | n+1,t,deep,hn=>by
  refine fnP Tryz.func17 fun X=>?_
  repeat (first|refine sc rfl ?_|refine so rfl ?_)
  refine O_case 8 rfl (fun c1=>?_) (fun c1=>?_)<;>simp only [pL] at c1
  ·repeat refine so rfl ?_
   refine C_true rfl rfl ?_
   repeat (first|refine sc rfl ?_|refine so rfl ?_)
   exact ⟨_,rfl,rfl,false,rfl,fun h=>by cases h⟩
  repeat refine so rfl ?_
  refine C_if rfl (fun c2=>?_) (fun c2=>?_)<;>simp only [pL] at c2
  ·repeat (first|refine sc rfl ?_|refine so rfl ?_)
   exact ⟨_,rfl,rfl,false,rfl,fun h=>by cases h⟩
  have hlen:t.of.length≤3:=by omega
  repeat (first|refine sc rfl ?_|refine so rfl ?_)
  refine C_loop (fun i:Nat=>⟨[(1,I64 deep),(2,.bp 2 0),(5,I64 (i:Nat))],[.box 2 58 (Ty.c t)]⟩) (fun i=>i≤t.of.length∧∀ j,j<i→FewT (t.of.getD j default)) (fun i=>t.of.length-i) 0 ⟨Nat.zero_le _,fun j hj=>absurd hj (Nat.not_lt_zero _)⟩ (Le.sub [2] ⟨rfl,rfl,rfl,trivial⟩ rfl) ?_
  rintro i ⟨hi,hall⟩
  repeat (first|refine sc rfl ?_|refine so rfl ?_)
  refine C_if rfl (fun m1=>?_) (fun m1=>?_)<;>simp only [pL] at m1
  ·have hil:i<t.of.length:=by omega
   iterate 7 (first|refine sc rfl ?_|refine so rfl ?_)
   refine O_le _ (Le.one 22 (SL 3 Ty.c t.of) rfl (.row (Ty.rows_eq _))) ?_
   repeat refine so rfl ?_
   refine ⟨by omega,?_⟩
   rw [Int.toNat_natCast]
   repeat refine so rfl ?_
   refine O_cP (small_c n (t.of.getD i default) _ (by have:=of_lt hil;omega)) fun r hr=>?_
   obtain ⟨g,rfl,hg⟩:=hr
   repeat refine so rfl ?_
   cases g with
   | true =>
    refine C_false rfl rfl ?_
    repeat (first|refine sc rfl ?_|refine so rfl ?_)
    rw [w64 (x:=(i:Int)+1) (by omega) (by omega)]
    refine ⟨i+1,⟨hil,fun j hj=>?_⟩,by omega,Le.sub [2] ⟨rfl,rfl,rfl,trivial⟩ rfl⟩
    by_cases hji:j<i
    ·exact hall j hji
    ·obtain rfl:j=i:=by omega
     exact hg rfl
   | false =>
    refine C_true rfl rfl ?_
    repeat (first|refine sc rfl ?_|refine so rfl ?_)
    exact ⟨_,rfl,rfl,false,rfl,fun h=>by cases h⟩
  ·obtain rfl:i=t.of.length:=by omega
   repeat (first|refine sc rfl ?_|refine so rfl ?_)
   exact ⟨_,rfl,rfl,true,rfl,fun _=>.mk (by omega) hall⟩

def Lets (l:List Dcl):Prop:=FewL l∧∀ i,i<l.length→(l.getD i default).fields.length≤30

theorem Great_c (l:List Dcl):FnP Tryz.prog 6 [SL 5 Dcl.c l] (fun r=>∃ g,r=B g∧(g=false→Lets l)):=by
 refine fnP Tryz.func6 fun X=>?_
 repeat (first|refine sc rfl ?_|refine so rfl ?_)
 refine C_loop (fun i:Nat=>⟨[(0,SL 5 Dcl.c l),(3,I64 (i:Nat))],[]⟩) (fun i=>i≤l.length∧i≤21∧∀ j,j<i→FewD (l.getD j default)∧(l.getD j default).fields.length≤30) (fun i=>l.length-i) 0 ⟨Nat.zero_le _,by omega,fun j hj=>absurd hj (Nat.not_lt_zero _)⟩ (Le.sub [] ⟨rfl,rfl,trivial⟩ rfl) ?_
 rintro i ⟨hi,hi21,hall⟩
 repeat (first|refine sc rfl ?_|refine so rfl ?_)
 refine C_if rfl (fun m1=>?_) (fun m1=>?_)<;>simp only [pL] at m1
 ·have hil:i<l.length:=by omega
  repeat (first|refine sc rfl ?_|refine so rfl ?_)
  refine O_case 13 rfl (fun c1=>?_) (fun c1=>?_)<;>simp only [pL] at c1
  ·repeat refine so rfl ?_
   refine C_true rfl rfl ?_
   repeat (first|refine sc rfl ?_|refine so rfl ?_)
   exact ⟨_,rfl,rfl,true,rfl,fun h=>by cases h⟩
  repeat refine so rfl ?_
  refine ⟨by omega,?_⟩
  rw [Int.toNat_natCast]
  repeat refine so rfl ?_
  refine O_case 22 rfl (fun c2=>?_) (fun c2=>?_)<;>simp only [pL] at c2
  ·repeat refine so rfl ?_
   refine C_true rfl rfl ?_
   repeat (first|refine sc rfl ?_|refine so rfl ?_)
   exact ⟨_,rfl,rfl,true,rfl,fun h=>by cases h⟩
  repeat refine so rfl ?_
  refine ⟨by omega,?_⟩
  rw [Int.toNat_natCast]
  repeat refine so rfl ?_
  refine C_if rfl (fun c3=>?_) (fun c3=>?_)<;>simp only [pL] at c3
  ·repeat (first|refine sc rfl ?_|refine so rfl ?_)
   exact ⟨_,rfl,rfl,true,rfl,fun h=>by cases h⟩
  have h30:(l.getD i default).fields.length≤30:=by omega
  have hm30:(l.getD i default).methods.length≤30:=by omega
  repeat (first|refine sc rfl ?_|refine so rfl ?_)
  refine C_loop (fun k:Nat=>⟨[(0,SL 5 Dcl.c l),(3,I64 (i:Nat)),(4,I64 (k:Nat))],[]⟩) (fun k=>k≤(l.getD i default).fields.length∧∀ j,j<k→FewT ((l.getD i default).fields.getD j default).ty) (fun k=>(l.getD i default).fields.length-k) 0 ⟨Nat.zero_le _,fun j hj=>absurd hj (Nat.not_lt_zero _)⟩ (Le.sub [] ⟨rfl,rfl,rfl,trivial⟩ rfl) ?_
  rintro k ⟨hk,hks⟩
  repeat (first|refine sc rfl ?_|refine so rfl ?_)
  refine ⟨by omega,?_⟩
  rw [Int.toNat_natCast]
  repeat refine so rfl ?_
  refine C_if rfl (fun m2=>?_) (fun m2=>?_)<;>simp only [pL] at m2
  ·have hkl:k<(l.getD i default).fields.length:=by omega
   repeat (first|refine sc rfl ?_|refine so rfl ?_)
   refine ⟨by omega,?_⟩
   rw [Int.toNat_natCast]
   repeat refine so rfl ?_
   refine ⟨by omega,?_⟩
   rw [Int.toNat_natCast]
   repeat refine so rfl ?_
   refine O_cP (small_c _ ((l.getD i default).fields.getD k default).ty 0 (Nat.le_refl _)) fun r hr=>?_
   obtain ⟨g,rfl,hg⟩:=hr
   repeat refine so rfl ?_
   cases g with
   | true =>
    refine C_false rfl rfl ?_
    repeat (first|refine sc rfl ?_|refine so rfl ?_)
    rw [w64 (x:=(k:Int)+1) (by omega) (by omega)]
    refine ⟨k+1,⟨hkl,fun j hj=>?_⟩,by omega,Le.sub [] ⟨rfl,rfl,rfl,trivial⟩ rfl⟩
    by_cases hjk:j<k
    ·exact hks j hjk
    ·obtain rfl:j=k:=by omega
     exact hg rfl
   | false =>
    refine C_true rfl rfl ?_
    repeat (first|refine sc rfl ?_|refine so rfl ?_)
    exact ⟨_,rfl,rfl,true,rfl,fun h=>by cases h⟩
  ·obtain rfl:k=(l.getD i default).fields.length:=by omega
   repeat (first|refine sc rfl ?_|refine so rfl ?_)
   rw [w64 (x:=(i:Int)+1) (by omega) (by omega)]
   refine ⟨i+1,⟨hil,by omega,fun j hj=>?_⟩,by omega,Le.sub [] ⟨rfl,rfl,trivial⟩ rfl⟩
   by_cases hji:j<i
   ·exact hall j hji
   ·obtain rfl:j=i:=by omega
    exact ⟨⟨⟨by omega,hks⟩,by omega⟩,h30⟩
 ·obtain rfl:i=l.length:=by omega
  repeat (first|refine sc rfl ?_|refine so rfl ?_)
  exact ⟨_,rfl,rfl,false,rfl,fun _=>⟨⟨by omega,fun j hj=>(hall j hj).1⟩,fun j hj=>(hall j hj).2⟩⟩
end Go.Proofs

namespace Go.Proofs
open Go.Sy Go.Lib

end Go.Proofs

namespace Go.Proofs
open Go.Sy Go.Lib

end Go.Proofs

namespace Go.Proofs
open Go.Sy Go.Lib

noncomputable def sameT (a b:Ty):Bool:=@decide (a=b) (Classical.propDecidable _)
theorem sameT_true {a b:Ty}:sameT a b=true↔a=b:=by unfold sameT;simp
theorem sameT_false {a b:Ty}:sameT a b=false↔a≠b:=by unfold sameT;simp

theorem ty_ext {a b:Ty} (h1:a.kind=b.kind) (h2:a.name=b.name) (h3:a.of.length=b.of.length) (h4:∀ i,i<a.of.length→a.of.getD i default=b.of.getD i default):a=b:=by
 obtain ⟨k1,n1,o1⟩:=a
 obtain ⟨k2,n2,o2⟩:=b
 simp only [] at h1 h2 h3 h4
 subst h1 h2
 congr 1
 apply List.ext_getElem h3
 intro i hi1 hi2
 have:=h4 i hi1
 rwa [getD_at hi1,getD_at hi2] at this

end Go.Proofs

namespace Go.Proofs
open Go.Shelf
def Tryz.lays137_ren:Go.Shelf.Ren:=⟨fun|137=>130|217=>151|266=>167|n=>n,fun|9=>9|5=>5|3=>3|n=>n,fun|n=>n⟩
theorem Tryz.lays137:Go.Proofs.Lays.n137 Tryz.prog Tryz.lays137_ren:={
 mixed:=by kernel_rfl
 f137:=Tryz.func130.trans (congrArg some (by kernel_rfl))
 f217:=Tryz.func151.trans (congrArg some (by kernel_rfl))
 f266:=Tryz.func167.trans (congrArg some (by kernel_rfl))
 t3:=Tryz.underlying3
 a3:=Tryz.isAgg3
 z3:=Tryz.sizeOf3
 v3:=Tryz.zeroValue3
 t5:=Tryz.underlying5
 a5:=Tryz.isAgg5
 z5:=Tryz.sizeOf5
 v5:=Tryz.zeroValue5
 t9:=Tryz.underlying9
 a9:=Tryz.isAgg9
 z9:=Tryz.sizeOf9
 v9:=Tryz.zeroValue9 }
theorem Tryz.strings_IndexByte (s:ByteArray) (c:Int) (w:World) :
  Calls Tryz.prog 130 #[.string s,.int .u8 c] w fun e w'=>e=.returned (.int .i64 (Lib.indexByte s.data.toList c.toNat.toUInt8))∧w'=w:=Any.strings_IndexByte Tryz.lays137 s c w
def Tryz.lays144_ren:Go.Shelf.Ren:=⟨fun|144=>152|143=>168|219=>182|217=>151|225=>191|224=>192|267=>193|266=>167|314=>194|n=>n,fun|9=>9|4=>4|3=>3|5=>5|46=>193|146=>268|51=>93|n=>n,fun|1=>0|n=>n⟩
theorem Tryz.lays144:Go.Proofs.Lays.n144 Tryz.prog Tryz.lays144_ren:={
 mixed:=by kernel_rfl
 f143:=Tryz.func168.trans (congrArg some (by kernel_rfl))
 f144:=Tryz.func152.trans (congrArg some (by kernel_rfl))
 f217:=Tryz.func151.trans (congrArg some (by kernel_rfl))
 f219:=Tryz.func182.trans (congrArg some (by kernel_rfl))
 f224:=Tryz.func192.trans (congrArg some (by kernel_rfl))
 f225:=Tryz.func191.trans (congrArg some (by kernel_rfl))
 f266:=Tryz.func167.trans (congrArg some (by kernel_rfl))
 f267:=Tryz.func193.trans (congrArg some (by kernel_rfl))
 f314:=Tryz.func194.trans (congrArg some (by kernel_rfl))
 t3:=Tryz.underlying3
 a3:=Tryz.isAgg3
 z3:=Tryz.sizeOf3
 v3:=Tryz.zeroValue3
 t4:=Tryz.underlying4
 a4:=Tryz.isAgg4
 z4:=Tryz.sizeOf4
 v4:=Tryz.zeroValue4
 t5:=Tryz.underlying5
 a5:=Tryz.isAgg5
 z5:=Tryz.sizeOf5
 v5:=Tryz.zeroValue5
 t9:=Tryz.underlying9
 a9:=Tryz.isAgg9
 z9:=Tryz.sizeOf9
 v9:=Tryz.zeroValue9
 t46:=Tryz.underlying193
 a46:=Tryz.isAgg193
 z46:=Tryz.sizeOf193
 v46:=Tryz.zeroValue193
 t51:=Tryz.underlying93
 a51:=Tryz.isAgg93
 z51:=Tryz.sizeOf93
 v51:=Tryz.zeroValue93
 t146:=Tryz.underlying268
 a146:=Tryz.isAgg268
 z146:=Tryz.sizeOf268
 v146:=Tryz.zeroValue268
 g1:=by kernel_rfl }
theorem Tryz.strings_Contains (s sub:ByteArray) (m:Int) (w:World) (hs:s.size<4294967281) (hm:w.cell? ⟨0,0,none⟩=some (.int .i64 m)) :
  Calls Tryz.prog 152 #[.string s,.string sub] w fun e w'=>e=.returned (.bool (Lib.contains s.data.toList sub.data.toList))∧w'=w:=Any.strings_Contains Tryz.lays144 s sub m w hs hm

end Go.Proofs

namespace Go.Proofs
open Go.Sy Go.Lib

theorem w8 {x:Int} (h1:0≤x) (h2:x≤255):IntKind.u8.wrap x=x:=by
 simp only [IntKind.wrap]
 rw [if_neg (by simp [IntKind.signed])]
 show x % 2 ^ 8=x
 omega

abbrev U8 (c:UInt8):AV:=.v (.int .u8 (c.toNat:Int))

def letB (c:UInt8):Bool:=(97≤c.toNat&&c.toNat≤122)||(65≤c.toNat&&c.toNat≤90)
def digB (c:UInt8):Bool:=48≤c.toNat&&c.toNat≤57
def innB (c:UInt8):Bool:=letB c||digB c||c.toNat == 95
def nteB (c:UInt8):Bool:=c.toNat != 10

theorem letter_c (c:UInt8):FnP Tryz.prog 125 [U8 c] (·=B (letB c)):=by
 refine fnP Tryz.func125 fun X=>?_
 repeat (first|refine sc rfl ?_|refine so rfl ?_)
 refine O_case 5 rfl (fun h1=>?_) (fun h1=>?_)<;>simp only [pL] at h1
 ·repeat refine so rfl ?_
  refine O_case 9 rfl (fun h2=>?_) (fun h2=>?_)<;>simp only [pL] at h2
  ·repeat (first|refine sc rfl ?_|refine so rfl ?_)
   exact ⟨_,rfl,rfl,congrArg B (show true=letB c by unfold letB;rw [decide_eq_true (show 97≤c.toNat by omega),decide_eq_true (show c.toNat≤122 by omega)];rfl)⟩
  ·repeat refine so rfl ?_
   refine O_case 12 rfl (fun h3=>?_) (fun h3=>?_)<;>simp only [pL] at h3
   ·repeat (first|refine sc rfl ?_|refine so rfl ?_)
    exact ⟨_,rfl,rfl,congrArg B (show decide ((c.toNat:Int)≤90)=letB c by unfold letB;rw [Bool.eq_iff_iff];simp;omega)⟩
   ·repeat (first|refine sc rfl ?_|refine so rfl ?_)
    exact ⟨_,rfl,rfl,congrArg B (show false=letB c by unfold letB;rw [Bool.eq_iff_iff];simp;omega)⟩
 ·repeat refine so rfl ?_
  refine O_case 12 rfl (fun h3=>?_) (fun h3=>?_)<;>simp only [pL] at h3
  ·repeat (first|refine sc rfl ?_|refine so rfl ?_)
   exact ⟨_,rfl,rfl,congrArg B (show decide ((c.toNat:Int)≤90)=letB c by unfold letB;rw [Bool.eq_iff_iff];simp;omega)⟩
  ·repeat (first|refine sc rfl ?_|refine so rfl ?_)
   exact ⟨_,rfl,rfl,congrArg B (show false=letB c by unfold letB;rw [Bool.eq_iff_iff];simp;omega)⟩
theorem digit_c (c:UInt8):FnP Tryz.prog 127 [U8 c] (·=B (digB c)):=by
 refine fnP Tryz.func127 fun X=>?_
 repeat (first|refine sc rfl ?_|refine so rfl ?_)
 refine O_case 5 rfl (fun h1=>?_) (fun h1=>?_)<;>simp only [pL] at h1
 ·repeat (first|refine sc rfl ?_|refine so rfl ?_)
  exact ⟨_,rfl,rfl,congrArg B (show decide ((c.toNat:Int)≤57)=digB c by unfold digB;rw [Bool.eq_iff_iff];simp;omega)⟩
 ·repeat (first|refine sc rfl ?_|refine so rfl ?_)
  exact ⟨_,rfl,rfl,congrArg B (show false=digB c by unfold digB;rw [Bool.eq_iff_iff];simp;omega)⟩
theorem inner_c (c:UInt8):FnP Tryz.prog 148 [U8 c] (·=B (innB c)):=by
 refine fnP Tryz.func148 fun X=>?_
 repeat (first|refine sc rfl ?_|refine so rfl ?_)
 refine O_cP (letter_c c) fun r hr=>?_
 subst hr
 repeat refine so rfl ?_
 cases h1:letB c with
 | true =>
  repeat (first|refine sc rfl ?_|refine so rfl ?_)
  exact ⟨_,rfl,rfl,congrArg B (show true=innB c by unfold innB;rw [h1];rfl)⟩
 | false =>
  repeat refine so rfl ?_
  refine O_cP (digit_c c) fun r hr=>?_
  subst hr
  repeat refine so rfl ?_
  cases h2:digB c with
  | true =>
   repeat (first|refine sc rfl ?_|refine so rfl ?_)
   exact ⟨_,rfl,rfl,congrArg B (show true=innB c by unfold innB;rw [h1,h2];rfl)⟩
  | false =>
   repeat (first|refine sc rfl ?_|refine so rfl ?_)
   exact ⟨_,rfl,rfl,congrArg B (show ((c.toNat:Int) == 95)=innB c by unfold innB;rw [h1,h2,Bool.eq_iff_iff];simp;omega)⟩
theorem note1_c (c:UInt8):FnP Tryz.prog 150 [U8 c] (·=B (nteB c)):=by
 refine fnP Tryz.func150 fun X=>?_
 repeat (first|refine sc rfl ?_|refine so rfl ?_)
 exact ⟨_,rfl,rfl,congrArg B (show ((c.toNat:Int) != 10)=nteB c by unfold nteB;rw [Bool.eq_iff_iff];simp;omega)⟩

structure Tok where
 kind:Int
 text:List UInt8
 num:Int
 at_:Int
instance:Inhabited Tok:=⟨⟨0,[],0,0⟩⟩
def Tok.c (t:Tok):List AV:=[I64 t.kind,.s t.text,I64 t.num,I64 t.at_]

abbrev lexA (b:Nat) (s:List UInt8) (i:Nat) (h:Value):Abs:=boxA b 197 [.s s,I64 (i:Nat),.v h]
abbrev tokA (h:Value) (ts:List Tok):Abs:=vecA h 143 4 ts.length (fun i=>Tok.c (ts.getD i default))

theorem put_A (b:Nat) (s:List UInt8) (i:Nat) (h:Value) (ts:List Tok) (hl:ts.length≤100000) (k:Int) (t:List UInt8) (num at_:Int) :
  FnA Tryz.prog 93 [PT b 0,I64 k,.s t,I64 num,I64 at_] [lexA b s i h,tokA h ts] (fun r cs'=>r=.tup []∧∃ h',cs'=[lexA b s i h',tokA h' (ts++[⟨k,t,num,at_⟩])]):=by
 refine fnA Tryz.func93 fun X=>?_
 repeat (first|refine sc rfl ?_|refine so rfl ?_)
 refine O_loadP 0 (reads_box 2) rfl rfl rfl rfl rfl rfl ?_
 repeat (first|refine so rfl ?_|refine sb rfl ?_)
 refine O_le _ (Le.freeze 20 rfl rfl) ?_
 refine O_appendV 1 (m2:=1) (m3:=ts.length+1) (row3:=fun i=>Tok.c ((ts++[(⟨k,t,num,at_⟩:Tok)]).getD i default)) rfl rfl rfl rfl rfl rfl (fun i hi=>?_) rfl (by show (ts.length+1)*40≤140737488355328;omega) (by show ts.length+1≤maxLen;simp only [maxLen];omega) rfl (fun i hi=>?_) (fun v' hv'=>?_)
 ·show (chunkRow 4 (Tok.c (⟨k,t,num,at_⟩:Tok)) i).length=4
  have h0:i=0:=by have:i<1:=hi;omega
  subst h0;rfl
 ·unfold appRow
  by_cases hik:i<ts.length
  ·rw [if_pos hik]
   show Tok.c (ts.getD i default)=_
   rw [List.getD_eq_getElem?_getD,List.getD_eq_getElem?_getD,List.getElem?_append_left hik]
  ·rw [if_neg hik]
   obtain rfl:i=ts.length:=by omega
   rw [Nat.sub_self,List.getD_eq_getElem?_getD,List.getElem?_append_right (Nat.le_refl _),Nat.sub_self];rfl
 ·obtain ⟨g9,cc9,rfl⟩:=hv'.resolve_left (fun h=>by omega)
  repeat refine so rfl ?_
  refine O_Xn (X_storeP 1 (writes_box (by show 2<3;decide)) rfl rfl rfl rfl rfl rfl rfl) ?_
  repeat refine so rfl ?_
  exact ⟨_,[lexA b s i (HD g9 (ts.length+1) cc9),_],_,rfl,.refl _,rfl,rfl,_,by show _=[_,vecA _ 143 4 (ts++[(⟨k,t,num,at_⟩:Tok)]).length _];rw [List.length_append];rfl⟩

theorem tw_all {p:UInt8→Bool}:∀ {l:List UInt8} {n:Nat},n≤l.length→(∀ j,j<n→p (l.getD j 0)=true)→(n=l.length∨p (l.getD n 0)=false)→l.takeWhile p=l.take n
 | [],n,h,_,_=>by simp
 | c::l,0,_,_,h=>by
  rcases h with h|h
  ·simp at h
  ·have:p c=false:=by simpa using h
   simp [this]
 | c::l,n+1,h,hall,hs=>by
  have h0:p c=true:=by simpa using hall 0 (by omega)
  rw [List.takeWhile_cons,h0,if_pos rfl,List.take_succ_cons]
  rw [tw_all (l:=l) (n:=n) (by simpa using h) (fun j hj=>by simpa using hall (j+1) (by omega)) (by simpa using hs)]
theorem tw_stop {p:UInt8→Bool} {s:List UInt8} {i k:Nat} (h1:i≤k) (h2:k≤s.length) (hall:∀ j,i≤j→j<k→p (s.getD j 0)=true) (hs:k=s.length∨p (s.getD k 0)=false) :
  (s.drop i).takeWhile p=(s.drop i).take (k-i)∧((s.drop i).takeWhile p).length=k-i:=by
 have hg:∀ j,(s.drop i).getD j 0=s.getD (i+j) 0:=fun j=>by rw [List.getD_eq_getElem?_getD,List.getElem?_drop,List.getD_eq_getElem?_getD]
 have h3:=tw_all (p:=p) (l:=s.drop i) (n:=k-i) (by rw [List.length_drop];omega) (fun j hj=>by rw [hg];exact hall _ (by omega) (by omega)) (by
  rcases hs with hs|hs
  ·left;rw [List.length_drop];omega
  ·right;rw [hg,show i+(k-i)=k by omega];exact hs)
 refine ⟨h3,?_⟩
 rw [h3,List.length_take,List.length_drop];omega

theorem while_A (f:FuncId) (p:UInt8→Bool) (hp:∀ c,FnP Tryz.prog f [U8 c] (·=B (p c))) (b:Nat) (s:List UInt8) (i:Nat) (h:Value) (hi:i≤s.length) (hs:s.length≤1024) :
  FnA Tryz.prog 147 [PT b 0,.v (.func (.func f) #[] #[])] [lexA b s i h] (fun r cs'=>r=.s ((s.drop i).takeWhile p)∧cs'=[lexA b s (i+((s.drop i).takeWhile p).length) h]):=by
 refine fnA Tryz.func147 fun X=>?_
 repeat (first|refine sc rfl ?_|refine so rfl ?_)
 refine O_loadP 0 (reads_box 1) rfl rfl rfl rfl rfl rfl ?_
 repeat (first|refine sc rfl ?_|refine so rfl ?_)
 refine C_loop (fun k:Nat=>⟨[(0,PT b 0),(1,.v (.func (.func f) #[] #[])),(5,I64 (i:Nat))],[.abs (lexA b s k h)]⟩) (fun k=>i≤k∧k≤s.length∧∀ j,i≤j→j<k→p (s.getD j 0)=true) (fun k=>s.length-k) i ⟨Nat.le_refl _,hi,fun j h1 h2=>by omega⟩ (Le.pick [0] ⟨rfl,rfl,rfl,trivial⟩ rfl) ?_
 rintro k ⟨hk1,hk2,hall⟩
 repeat refine sc rfl ?_
 refine C_drawD rfl (by kernel_rfl) ?_
 repeat refine sd rfl ?_
 refine D_X (I64 (k:Nat)) (X_loadP 0 (reads_box 1) rfl rfl rfl rfl rfl rfl) ?_
 repeat refine sd rfl ?_
 refine D_X (.s s) (X_loadP 0 (reads_box 0) rfl rfl rfl rfl rfl rfl) ?_
 repeat refine sd rfl ?_
 refine D_case 10 rfl (fun m1=>?_) (fun m1=>?_)<;>simp only [pL] at m1
 ·have hkl:k<s.length:=by omega
  repeat refine sd rfl ?_
  refine D_X (.s s) (X_loadP 0 (reads_box 0) rfl rfl rfl rfl rfl rfl) ?_
  repeat refine sd rfl ?_
  refine D_X (I64 (k:Nat)) (X_loadP 0 (reads_box 1) rfl rfl rfl rfl rfl rfl) ?_
  repeat refine sd rfl ?_
  refine ⟨by omega,?_⟩
  rw [Int.toNat_natCast]
  refine D_callV (isClo_func f) rfl (hp (s.getD k 0)) rfl rfl rfl rfl rfl ?_
  repeat refine sd rfl ?_
  repeat refine sc rfl ?_
  cases hpk:p (s.getD k 0) with
  | true =>
   refine C_true rfl rfl ?_
   repeat (first|refine sc rfl ?_|refine so rfl ?_)
   refine O_loadP 0 (reads_box 1) rfl rfl rfl rfl rfl rfl ?_
   repeat refine so rfl ?_
   refine O_Xn (X_storeP 0 (writes_box (by show 1<3;decide)) rfl rfl rfl rfl rfl rfl rfl) ?_
   repeat refine so rfl ?_
   rw [w64 (x:=(k:Int)+1) (by omega) (by omega)]
   refine ⟨k+1,⟨by omega,hkl,fun j h1 h2=>?_⟩,by omega,Le.pick [0] ⟨rfl,rfl,rfl,trivial⟩ rfl⟩
   by_cases hjk:j<k
   ·exact hall j h1 hjk
   ·obtain rfl:j=k:=by omega
    exact hpk
  | false =>
   refine C_false rfl rfl ?_
   repeat refine sc rfl ?_
   refine C_drawD rfl (by kernel_rfl) ?_
   repeat refine sd rfl ?_
   refine D_X (.s s) (X_loadP 0 (reads_box 0) rfl rfl rfl rfl rfl rfl) ?_
   repeat refine sd rfl ?_
   refine D_X (I64 (k:Nat)) (X_loadP 0 (reads_box 1) rfl rfl rfl rfl rfl rfl) ?_
   repeat refine sd rfl ?_
   refine ⟨by omega,?_⟩
   rw [Int.toNat_natCast,Int.toNat_natCast]
   have htw:=tw_stop hk1 hk2 hall (.inr hpk)
   repeat refine sd rfl ?_
   repeat refine sc rfl ?_
   exact ⟨_,[lexA b s k h],_,rfl,.refl _,rfl,by rw [htw.1],by rw [htw.2,show i+(k-i)=k by omega]⟩
 ·repeat refine sd rfl ?_
  repeat refine sc rfl ?_
  refine C_false rfl rfl ?_
  repeat refine sc rfl ?_
  refine C_drawD rfl (by kernel_rfl) ?_
  repeat refine sd rfl ?_
  refine D_X (.s s) (X_loadP 0 (reads_box 0) rfl rfl rfl rfl rfl rfl) ?_
  repeat refine sd rfl ?_
  refine D_X (I64 (k:Nat)) (X_loadP 0 (reads_box 1) rfl rfl rfl rfl rfl rfl) ?_
  repeat refine sd rfl ?_
  refine ⟨by omega,?_⟩
  rw [Int.toNat_natCast,Int.toNat_natCast]
  have htw:=tw_stop hk1 hk2 hall (.inl (by omega))
  repeat refine sd rfl ?_
  repeat refine sc rfl ?_
  exact ⟨_,[lexA b s k h],_,rfl,.refl _,rfl,by rw [htw.1],by rw [htw.2,show i+(k-i)=k by omega]⟩
end Go.Proofs

namespace Go.Proofs
open Go.Sy Go.Lib

def numF:List UInt8→Int→Int
 | [],n=>n
 | c::l,n=>numF l (10*n+((c.toNat:Int)-48))

def wordF (s:List UInt8) (i:Nat):Int×Nat×List Tok :=
 let w:=(s.drop i).takeWhile innB
 if 16<w.length then (6,i+w.length,[]) else (0,i+w.length,[⟨1,w,0,(i:Nat)⟩])
def nmbF (s:List UInt8) (i:Nat):Int×Nat×List Tok :=
 let w:=(s.drop i).takeWhile digB
 if 1<w.length∧w.getD 0 0=48 then (1,i+w.length,[]) else if 4<w.length then (3,i+w.length,[]) else (0,i+w.length,[⟨2,w,numF w 0,(i:Nat)⟩])

def LexP (b:Nat) (s:List UInt8) (ts:List Tok) (q:Int×Nat×List Tok) (r:AV) (cs':List Abs):Prop :=
 r=I64 q.1∧∃ h',cs'=[lexA b s q.2.1 h',tokA h' (ts++q.2.2)]

theorem word_A (b:Nat) (s:List UInt8) (i:Nat) (h:Value) (ts:List Tok) (hl:ts.length≤100000) (hi:i≤s.length) (hs:s.length≤1024) :
  FnA Tryz.prog 126 [PT b 0] [lexA b s i h,tokA h ts] (LexP b s ts (wordF s i)):=by
 refine fnA Tryz.func126 fun X=>?_
 repeat (first|refine sc rfl ?_|refine so rfl ?_)
 refine O_loadP 0 (reads_box 1) rfl rfl rfl rfl rfl rfl ?_
 repeat (first|refine sc rfl ?_|refine so rfl ?_)
 refine O_cA [0] (while_A 148 innB inner_c b s i h hi hs) ?_
 rintro r cs' ⟨rfl,rfl⟩
 repeat (first|refine sc rfl ?_|refine so rfl ?_)
 refine C_if rfl (fun m1=>?_) (fun m1=>?_)<;>simp only [pL] at m1
 ·repeat (first|refine sc rfl ?_|refine so rfl ?_)
  refine ⟨_,[_,_],_,rfl,.refl _,rfl,?_⟩
  unfold wordF
  simp only []
  rw [if_pos (by omega)]
  exact ⟨rfl,h,by rw [List.append_nil]⟩
 ·repeat (first|refine sc rfl ?_|refine so rfl ?_)
  refine O_cA [0,0] (put_A b s _ h ts hl 1 _ 0 (i:Nat)) ?_
  rintro r cs' ⟨rfl,h',rfl⟩
  repeat (first|refine sc rfl ?_|refine so rfl ?_)
  refine ⟨_,[_,_],_,rfl,.refl _,rfl,?_⟩
  unfold wordF
  simp only []
  rw [if_neg (by omega)]
  exact ⟨rfl,h',rfl⟩

theorem tw_dig:∀ (l:List UInt8) (j:Nat),j<(l.takeWhile digB).length→digB ((l.takeWhile digB).getD j 0)=true
 | [],j,h=>by simp at h
 | c::l,j,h=>by
  rw [List.takeWhile_cons] at h ⊢
  cases hc:digB c with
  | false=>rw [hc] at h;simp at h
  | true =>
   rw [hc] at h
   simp only [if_true] at h ⊢
   cases j with
   | zero=>simpa using hc
   | succ j=>simpa using tw_dig l j (by simpa using h)

theorem numF_snoc (c:UInt8):∀ (l:List UInt8) (n:Int),numF (l++[c]) n=10*numF l n+((c.toNat:Int)-48)
 | [],n=>rfl
 | d::l,n=>numF_snoc c l _
theorem numF_le:∀ (l:List UInt8) (n:Int),(∀ c∈l,digB c=true)→0≤n→0≤numF l n∧numF l n+1≤(n+1)*10 ^ l.length
 | [],n,_,h0=>by simp only [numF,List.length_nil];omega
 | c::l,n,hd,h0=>by
  have hc:=hd c (by simp)
  simp only [digB,Bool.and_eq_true,decide_eq_true_eq] at hc
  have:=numF_le l (10*n+((c.toNat:Int)-48)) (fun d h=>hd d (by simp [h])) (by omega)
  refine ⟨this.1,Int.le_trans this.2 ?_⟩
  rw [List.length_cons,Int.pow_succ,Int.mul_comm (10 ^ l.length) 10,← Int.mul_assoc]
  exact Int.mul_le_mul_of_nonneg_right (by omega) (Int.pow_nonneg (by omega))
theorem numF_bound (l:List UInt8) (hd:∀ c∈l,digB c=true) (h4:l.length≤4):0≤numF l 0∧numF l 0≤9999:=by
 have h:=numF_le l 0 hd (by omega)
 refine ⟨h.1,?_⟩
 have h2:=h.2
 match hl:l.length,h4 with
 | 0,_=>rw [hl] at h2;omega
 | 1,_=>rw [hl] at h2;omega
 | 2,_=>rw [hl] at h2;omega
 | 3,_=>rw [hl] at h2;omega
 | 4,_=>rw [hl] at h2;omega
theorem digit_take {w:List UInt8} (h:∀ j,j<w.length→digB (w.getD j 0)=true) {k:Nat} {c:UInt8} (hc:c∈w.take k):digB c=true:=by
 have:=List.mem_of_mem_take hc
 obtain ⟨j,hj,rfl⟩:=List.mem_iff_getElem.1 this
 have:=h j hj
 rwa [List.getD_eq_getElem?_getD,List.getElem?_eq_getElem hj] at this
theorem numF_step {w:List UInt8} {k:Nat} (hk:k<w.length) (hd:digB (w.getD k 0)=true):numF (w.take (k+1)) 0=10*numF (w.take k) 0+(((w.getD k 0).toNat:Int)-48)∧48≤(w.getD k 0).toNat∧(w.getD k 0).toNat≤57:=by
 simp only [digB,Bool.and_eq_true,decide_eq_true_eq] at hd
 refine ⟨?_,hd⟩
 rw [List.take_add_one,List.getElem?_eq_getElem hk,Option.toList_some,numF_snoc,List.getD_eq_getElem?_getD,List.getElem?_eq_getElem hk]
 rfl

theorem u8_48 {c:UInt8} (h:(c.toNat:Int)=48):c=48:=UInt8.toNat.inj (by show c.toNat=48;omega)

theorem number_A (b:Nat) (s:List UInt8) (i:Nat) (h:Value) (ts:List Tok) (hl:ts.length≤100000) (hi:i≤s.length) (hs:s.length≤1024) :
  FnA Tryz.prog 128 [PT b 0] [lexA b s i h,tokA h ts] (LexP b s ts (nmbF s i)):=by
 refine fnA Tryz.func128 fun X=>?_
 repeat (first|refine sc rfl ?_|refine so rfl ?_)
 refine O_loadP 0 (reads_box 1) rfl rfl rfl rfl rfl rfl ?_
 repeat (first|refine sc rfl ?_|refine so rfl ?_)
 refine O_cA [0] (while_A 127 digB digit_c b s i h hi hs) ?_
 rintro r cs' ⟨rfl,rfl⟩
 have hdig:∀ j,j<((s.drop i).takeWhile digB).length→digB (((s.drop i).takeWhile digB).getD j 0)=true:=tw_dig _
 have hwl:((s.drop i).takeWhile digB).length≤1024:=Nat.le_trans (List.takeWhile_sublist _).length_le (by rw [List.length_drop];omega)
 unfold nmbF
 simp only []
 generalize (s.drop i).takeWhile digB=w at *
 repeat (first|refine sc rfl ?_|refine so rfl ?_)
 refine O_case 17 rfl (fun m1=>?_) (fun m1=>?_)<;>simp only [pL] at m1
 rotate_left
 ·repeat refine so rfl ?_
  refine C_false rfl rfl ?_
  repeat (first|refine sc rfl ?_|refine so rfl ?_)
  have hn1:¬(1<w.length∧w.getD 0 0=48):=by omega
  have hn2:¬ 4<w.length:=by omega
  rw [if_neg hn1,if_neg hn2]
  refine C_false rfl (by simp;omega) ?_
  repeat (first|refine sc rfl ?_|refine so rfl ?_)
  refine C_loop (fun k:Nat=>⟨[(0,PT b 0),(3,I64 (i:Nat)),(4,.s w),(5,I64 (numF (w.take k) 0)),(27,I64 (w.length:Nat)),(28,I64 (k:Nat))],[.abs (lexA b s (i+w.length) h),.abs (tokA h ts)]⟩) (fun k=>k≤w.length) (fun k=>w.length-k) 0 (Nat.zero_le _) (Le.pick [0,0] ⟨rfl,rfl,rfl,rfl,rfl,rfl,trivial⟩ rfl) ?_
  intro k hk
  repeat (first|refine sc rfl ?_|refine so rfl ?_)
  refine C_if rfl (fun m2=>?_) (fun m2=>?_)<;>simp only [pL] at m2
  ·have hkl:k<w.length:=by omega
   have hd:=hdig k hkl
   have hb:=numF_bound (w.take k) (fun c hc=>digit_take hdig hc) (by rw [List.length_take];omega)
   obtain ⟨hs1,hd1,hd2⟩:=numF_step hkl hd
   repeat (first|refine sc rfl ?_|refine so rfl ?_)
   refine ⟨by omega,?_⟩
   rw [Int.toNat_natCast]
   repeat (first|refine sc rfl ?_|refine so rfl ?_)
   have e8:IntKind.u8.wrap (((w.getD k 0).toNat:Int)-48)=((w.getD k 0).toNat:Int)-48:=w8 (by omega) (by omega)
   have e1:IntKind.i64.wrap (IntKind.i64.wrap (10*numF (List.take k w) 0)+IntKind.i64.wrap (IntKind.u8.wrap (((w.getD k 0).toNat:Int)-48)))=numF (w.take (k+1)) 0:=by
    rw [e8,w64 (x:=10*numF (List.take k w) 0) (by omega) (by omega),w64 (x:=((w.getD k 0).toNat:Int)-48) (by omega) (by omega),w64 (by omega) (by omega),hs1]
   rw [e1,w64 (x:=(k:Int)+1) (by omega) (by omega)]
   exact ⟨k+1,hkl,by omega,Le.pick [0,0] ⟨rfl,rfl,rfl,rfl,rfl,rfl,trivial⟩ rfl⟩
  ·obtain rfl:k=w.length:=by omega
   rw [List.take_length]
   repeat (first|refine sc rfl ?_|refine so rfl ?_)
   refine O_cA [0,0] (put_A b s _ h ts hl 2 w _ (i:Nat)) ?_
   rintro r cs' ⟨rfl,h',rfl⟩
   repeat (first|refine sc rfl ?_|refine so rfl ?_)
   exact ⟨_,[_,_],_,rfl,.refl _,rfl,rfl,h',rfl⟩
 ·repeat refine so rfl ?_
  refine ⟨by omega,?_⟩
  repeat refine so rfl ?_
  refine C_if rfl (fun m3=>?_) (fun m3=>?_)<;>simp only [pL] at m3
  ·repeat (first|refine sc rfl ?_|refine so rfl ?_)
   have hn1:1<w.length∧w.getD 0 0=48:=⟨by omega,u8_48 m3⟩
   rw [if_pos hn1]
   exact ⟨_,[_,_],_,rfl,.refl _,rfl,rfl,h,by rw [List.append_nil]⟩
  have hn1:¬(1<w.length∧w.getD 0 0=48):=fun hh=>m3 (by have h0:(w.getD (Int.toNat 0) 0)=w.getD 0 0:=rfl;rw [h0,hh.2];rfl)
  rw [if_neg hn1]
  repeat (first|refine sc rfl ?_|refine so rfl ?_)
  refine C_if rfl (fun m4=>?_) (fun m4=>?_)<;>simp only [pL] at m4
  ·repeat (first|refine sc rfl ?_|refine so rfl ?_)
   rw [if_pos (by omega)]
   exact ⟨_,[_,_],_,rfl,.refl _,rfl,rfl,h,by rw [List.append_nil]⟩
  rw [if_neg (by omega)]
  repeat (first|refine sc rfl ?_|refine so rfl ?_)
  refine C_loop (fun k:Nat=>⟨[(0,PT b 0),(3,I64 (i:Nat)),(4,.s w),(5,I64 (numF (w.take k) 0)),(27,I64 (w.length:Nat)),(28,I64 (k:Nat))],[.abs (lexA b s (i+w.length) h),.abs (tokA h ts)]⟩) (fun k=>k≤w.length) (fun k=>w.length-k) 0 (Nat.zero_le _) (Le.pick [0,0] ⟨rfl,rfl,rfl,rfl,rfl,rfl,trivial⟩ rfl) ?_
  intro k hk
  repeat (first|refine sc rfl ?_|refine so rfl ?_)
  refine C_if rfl (fun m2=>?_) (fun m2=>?_)<;>simp only [pL] at m2
  ·have hkl:k<w.length:=by omega
   have hd:=hdig k hkl
   have hb:=numF_bound (w.take k) (fun c hc=>digit_take hdig hc) (by rw [List.length_take];omega)
   obtain ⟨hs1,hd1,hd2⟩:=numF_step hkl hd
   repeat (first|refine sc rfl ?_|refine so rfl ?_)
   refine ⟨by omega,?_⟩
   rw [Int.toNat_natCast]
   repeat (first|refine sc rfl ?_|refine so rfl ?_)
   have e8:IntKind.u8.wrap (((w.getD k 0).toNat:Int)-48)=((w.getD k 0).toNat:Int)-48:=w8 (by omega) (by omega)
   have e1:IntKind.i64.wrap (IntKind.i64.wrap (10*numF (List.take k w) 0)+IntKind.i64.wrap (IntKind.u8.wrap (((w.getD k 0).toNat:Int)-48)))=numF (w.take (k+1)) 0:=by
    rw [e8,w64 (x:=10*numF (List.take k w) 0) (by omega) (by omega),w64 (x:=((w.getD k 0).toNat:Int)-48) (by omega) (by omega),w64 (by omega) (by omega),hs1]
   rw [e1,w64 (x:=(k:Int)+1) (by omega) (by omega)]
   exact ⟨k+1,hkl,by omega,Le.pick [0,0] ⟨rfl,rfl,rfl,rfl,rfl,rfl,trivial⟩ rfl⟩
  ·obtain rfl:k=w.length:=by omega
   rw [List.take_length]
   repeat (first|refine sc rfl ?_|refine so rfl ?_)
   refine O_cA [0,0] (put_A b s _ h ts hl 2 w _ (i:Nat)) ?_
   rintro r cs' ⟨rfl,h',rfl⟩
   repeat (first|refine sc rfl ?_|refine so rfl ?_)
   exact ⟨_,[_,_],_,rfl,.refl _,rfl,rfl,h',rfl⟩

theorem isPre_take:∀ (p s:List UInt8),p.isPrefixOf s=decide (p.length≤s.length∧s.take p.length=p)
 | [],s=>by simp
 | c::p,[]=>by simp
 | c::p,d::s=>by
  simp only [List.isPrefixOf,isPre_take p s,List.length_cons,List.take_succ_cons]
  rw [Bool.eq_iff_iff]
  simp only [Bool.and_eq_true,beq_iff_eq,decide_eq_true_eq,List.cons.injEq]
  constructor
  ·rintro ⟨rfl,h1,h2⟩;exact ⟨by omega,rfl,h2⟩
  ·rintro ⟨h1,h2,h3⟩;exact ⟨h2.symm,by omega,h3⟩
theorem HasPrefix2_c (s p:List UInt8):FnP Tryz.prog 166 [.s s,.s p] (·=B (p.isPrefixOf s)):=by
 refine fnP Tryz.func166 fun X=>?_
 rw [isPre_take]
 repeat (first|refine sc rfl ?_|refine so rfl ?_)
 refine O_case 10 rfl (fun m1=>?_) (fun m1=>?_)<;>simp only [pL] at m1
 ·repeat refine so rfl ?_
  refine ⟨by omega,?_⟩
  repeat (first|refine sc rfl ?_|refine so rfl ?_)
  refine ⟨_,rfl,rfl,congrArg B ?_⟩
  rw [Int.toNat_natCast,Bool.eq_iff_iff]
  have hle:p.length≤s.length:=by omega
  simp [hle]
 ·repeat (first|refine sc rfl ?_|refine so rfl ?_)
  refine ⟨_,rfl,rfl,congrArg B ?_⟩
  rw [decide_eq_false (by omega)]

theorem HasPrefix_c (s p:List UInt8):FnP Tryz.prog 149 [.s s,.s p] (·=B (p.isPrefixOf s)):=by
 refine fnP Tryz.func149 fun X=>?_
 repeat (first|refine sc rfl ?_|refine so rfl ?_)
 refine O_cP (HasPrefix2_c s p) fun r hr=>?_
 subst hr
 repeat (first|refine sc rfl ?_|refine so rfl ?_)
 exact ⟨_,rfl,rfl,rfl⟩
end Go.Proofs

namespace Go.Proofs
open Go.Sy Go.Lib

def slashes:List UInt8:=[47,47]
def signsL:List UInt8:=[123,125,40,41,60,62,58,59,44,63]
def oneF (s:List UInt8) (i:Nat):Int×Nat×List Tok :=
 let c:=s.getD i 0
 if letB c then wordF s i else if digB c then nmbF s i else
 if c.toNat=47 then (if slashes.isPrefixOf (s.drop i) then (0,i+((s.drop i).takeWhile nteB).length,[]) else (5,i,[])) else
 if c.toNat=32∨c.toNat=9∨c.toNat=10∨c.toNat=13 then (0,i+1,[]) else
 if Lib.indexByte signsL c<0 then (5,i,[]) else (0,i+1,[⟨3,[c],0,(i:Nat)⟩])

theorem note_A (b:Nat) (s:List UInt8) (i:Nat) (h:Value) (hi:i≤s.length) (hs:s.length≤1024) :
  FnA Tryz.prog 129 [PT b 0] [lexA b s i h] (fun r cs'=>r=B (slashes.isPrefixOf (s.drop i))∧cs'=[lexA b s (if slashes.isPrefixOf (s.drop i) then i+((s.drop i).takeWhile nteB).length else i) h]):=by
 refine fnA Tryz.func129 fun X=>?_
 repeat (first|refine sc rfl ?_|refine so rfl ?_)
 refine C_drawD rfl (by kernel_rfl) ?_
 repeat refine sd rfl ?_
 refine D_X (.s s) (X_loadP 0 (reads_box 0) rfl rfl rfl rfl rfl rfl) ?_
 repeat refine sd rfl ?_
 refine D_X (I64 (i:Nat)) (X_loadP 0 (reads_box 1) rfl rfl rfl rfl rfl rfl) ?_
 repeat refine sd rfl ?_
 refine ⟨by omega,?_⟩
 rw [Int.toNat_natCast]
 refine D_call (HasPrefix_c (s.drop i) slashes) rfl rfl rfl rfl ?_
 repeat refine sd rfl ?_
 repeat refine sc rfl ?_
 cases hp:slashes.isPrefixOf (s.drop i) with
 | true =>
  refine C_false rfl rfl ?_
  repeat (first|refine sc rfl ?_|refine so rfl ?_)
  refine O_cA [0] (while_A 150 nteB note1_c b s i h hi hs) ?_
  rintro r cs' ⟨rfl,rfl⟩
  repeat (first|refine sc rfl ?_|refine so rfl ?_)
  exact ⟨_,[_],_,rfl,.refl _,rfl,rfl,rfl⟩
 | false =>
  refine C_true rfl rfl ?_
  repeat (first|refine sc rfl ?_|refine so rfl ?_)
  exact ⟨_,[_],_,rfl,.refl _,rfl,rfl,rfl⟩

theorem IndexByte_c (s:List UInt8) (c:UInt8):FnP Tryz.prog 130 [.s s,U8 c] (·=I64 (Lib.indexByte s c)):=by
 refine FnP.ofCalls (vs:=[S s,.int .u8 (c.toNat:Int)]) (v:=.int .i64 (Lib.indexByte s c)) ⟨_,Tryz.func130,rfl,by decide⟩ rfl rfl (fun G=>by simp only [RepI]) (fun w=>?_)
 have h:=Tryz.strings_IndexByte ⟨s.toArray⟩ (c.toNat:Int) w
 refine h.mono ?_
 rintro e w' ⟨rfl,rfl⟩
 refine ⟨?_,⟨rfl,rfl,rfl,Nat.le_refl _,fun _ _=>rfl⟩⟩
 have:((c.toNat:Int).toNat).toUInt8=c:=by simp
 rw [this]

theorem one_A (b:Nat) (s:List UInt8) (i:Nat) (h:Value) (ts:List Tok) (hl:ts.length≤100000) (hi:i<s.length) (hs:s.length≤1024) :
  FnA Tryz.prog 92 [PT b 0] [lexA b s i h,tokA h ts] (LexP b s ts (oneF s i)):=by
 refine fnA Tryz.func92 fun X=>?_
 repeat (first|refine sc rfl ?_|refine so rfl ?_)
 refine C_drawD rfl (by kernel_rfl) ?_
 repeat refine sd rfl ?_
 refine D_X (.s s) (X_loadP 0 (reads_box 0) rfl rfl rfl rfl rfl rfl) ?_
 repeat refine sd rfl ?_
 refine D_X (I64 (i:Nat)) (X_loadP 0 (reads_box 1) rfl rfl rfl rfl rfl rfl) ?_
 repeat refine sd rfl ?_
 refine ⟨by omega,?_⟩
 rw [Int.toNat_natCast]
 repeat refine sd rfl ?_
 repeat (first|refine sc rfl ?_|refine so rfl ?_)
 have hF:oneF s i=(let c:=s.getD i 0
  if letB c then wordF s i else if digB c then nmbF s i else
   if c.toNat=47 then (if slashes.isPrefixOf (s.drop i) then (0,i+((s.drop i).takeWhile nteB).length,[]) else (5,i,[])) else
   if c.toNat=32∨c.toNat=9∨c.toNat=10∨c.toNat=13 then (0,i+1,[]) else
   if Lib.indexByte signsL c<0 then (5,i,[]) else (0,i+1,[⟨3,[c],0,(i:Nat)⟩])):=rfl
 simp only [] at hF
 have hci:(s.drop i).take 1=[s.getD i 0]:=by
  rw [List.getD_eq_getElem?_getD,List.getElem?_eq_getElem hi,List.take_one,List.head?_drop,List.getElem?_eq_getElem hi];rfl
 generalize hc:s.getD i 0=c at hF hci ⊢
 refine O_cP (letter_c c) fun r hr=>?_
 subst hr
 repeat refine so rfl ?_
 cases h1:letB c with
 | true =>
  refine C_true rfl rfl ?_
  repeat (first|refine sc rfl ?_|refine so rfl ?_)
  refine O_cA [0,0] (word_A b s i h ts hl (by omega) hs) ?_
  rintro r cs' ⟨rfl,h',rfl⟩
  repeat (first|refine sc rfl ?_|refine so rfl ?_)
  exact ⟨_,[_,_],_,rfl,.refl _,rfl,by rw [hF];simp only [h1,if_true];exact ⟨rfl,h',rfl⟩⟩
 | false =>
 refine C_false rfl rfl ?_
 repeat (first|refine sc rfl ?_|refine so rfl ?_)
 refine O_cP (digit_c c) fun r hr=>?_
 subst hr
 repeat refine so rfl ?_
 cases h2:digB c with
 | true =>
  refine C_true rfl rfl ?_
  repeat (first|refine sc rfl ?_|refine so rfl ?_)
  refine O_cA [0,0] (number_A b s i h ts hl (by omega) hs) ?_
  rintro r cs' ⟨rfl,h',rfl⟩
  repeat (first|refine sc rfl ?_|refine so rfl ?_)
  exact ⟨_,[_,_],_,rfl,.refl _,rfl,by rw [hF];simp only [h1,h2,Bool.false_eq_true,if_false,if_true];exact ⟨rfl,h',rfl⟩⟩
 | false =>
 refine C_false rfl rfl ?_
 repeat (first|refine sc rfl ?_|refine so rfl ?_)
 refine C_if rfl (fun m1=>?_) (fun m1=>?_)<;>simp only [pL] at m1
 ·have n1:c.toNat=47:=by omega
  repeat (first|refine sc rfl ?_|refine so rfl ?_)
  refine O_cA [0] (note_A b s i h (by omega) hs) ?_
  rintro r cs' ⟨rfl,rfl⟩
  repeat refine so rfl ?_
  cases hp:slashes.isPrefixOf (s.drop i) with
  | true =>
   refine C_false rfl rfl ?_
   repeat (first|refine sc rfl ?_|refine so rfl ?_)
   exact ⟨_,[_,_],_,rfl,.refl _,rfl,by rw [hF];simp only [h1,h2,n1,hp,Bool.false_eq_true,if_false,if_true];exact ⟨rfl,h,by rw [List.append_nil]⟩⟩
  | false =>
   refine C_true rfl rfl ?_
   repeat (first|refine sc rfl ?_|refine so rfl ?_)
   exact ⟨_,[_,_],_,rfl,.refl _,rfl,by rw [hF];simp only [h1,h2,n1,hp,Bool.false_eq_true,if_false,if_true];exact ⟨rfl,h,by rw [List.append_nil]⟩⟩
 have n1:¬ c.toNat=47:=by omega
 repeat (first|refine sc rfl ?_|refine so rfl ?_)
 refine C_if rfl (fun m2=>?_) (fun m2=>?_)<;>simp only [pL] at m2
 ·have nb:(c.toNat=32∨c.toNat=9∨c.toNat=10∨c.toNat=13)=True:=eq_true (by omega)
  repeat (first|refine sc rfl ?_|refine so rfl ?_)
  refine O_loadP 0 (reads_box 1) rfl rfl rfl rfl rfl rfl ?_
  repeat refine so rfl ?_
  refine O_Xn (X_storeP 0 (writes_box (by show 1<3;decide)) rfl rfl rfl rfl rfl rfl rfl) ?_
  repeat (first|refine sc rfl ?_|refine so rfl ?_)
  rw [w64 (x:=(i:Int)+1) (by omega) (by omega)]
  exact ⟨_,[lexA b s (i+1) h,tokA h ts],_,rfl,.refl _,rfl,by rw [hF];simp only [h1,h2,n1,nb,Bool.false_eq_true,if_false,if_true];exact ⟨rfl,h,by rw [List.append_nil]⟩⟩
 repeat (first|refine sc rfl ?_|refine so rfl ?_)
 refine C_if rfl (fun m3=>?_) (fun m3=>?_)<;>simp only [pL] at m3
 ·repeat refine sc rfl ?_
  refine C_true rfl (by simp [m3]) ?_
  have nb:(c.toNat=32∨c.toNat=9∨c.toNat=10∨c.toNat=13)=True:=eq_true (by omega)
  repeat (first|refine sc rfl ?_|refine so rfl ?_)
  refine O_loadP 0 (reads_box 1) rfl rfl rfl rfl rfl rfl ?_
  repeat refine so rfl ?_
  refine O_Xn (X_storeP 0 (writes_box (by show 1<3;decide)) rfl rfl rfl rfl rfl rfl rfl) ?_
  repeat (first|refine sc rfl ?_|refine so rfl ?_)
  rw [w64 (x:=(i:Int)+1) (by omega) (by omega)]
  exact ⟨_,[lexA b s (i+1) h,tokA h ts],_,rfl,.refl _,rfl,by rw [hF];simp only [h1,h2,n1,nb,Bool.false_eq_true,if_false,if_true];exact ⟨rfl,h,by rw [List.append_nil]⟩⟩
 repeat (first|refine sc rfl ?_|refine so rfl ?_)
 refine C_if rfl (fun m4=>?_) (fun m4=>?_)<;>simp only [pL] at m4
 ·repeat refine sc rfl ?_
  refine C_true rfl (by simp [m4]) ?_
  have nb:(c.toNat=32∨c.toNat=9∨c.toNat=10∨c.toNat=13)=True:=eq_true (by omega)
  repeat (first|refine sc rfl ?_|refine so rfl ?_)
  refine O_loadP 0 (reads_box 1) rfl rfl rfl rfl rfl rfl ?_
  repeat refine so rfl ?_
  refine O_Xn (X_storeP 0 (writes_box (by show 1<3;decide)) rfl rfl rfl rfl rfl rfl rfl) ?_
  repeat (first|refine sc rfl ?_|refine so rfl ?_)
  rw [w64 (x:=(i:Int)+1) (by omega) (by omega)]
  exact ⟨_,[lexA b s (i+1) h,tokA h ts],_,rfl,.refl _,rfl,by rw [hF];simp only [h1,h2,n1,nb,Bool.false_eq_true,if_false,if_true];exact ⟨rfl,h,by rw [List.append_nil]⟩⟩
 repeat (first|refine sc rfl ?_|refine so rfl ?_)
 refine C_if rfl (fun m5=>?_) (fun m5=>?_)<;>simp only [pL] at m5
 ·have nb:(c.toNat=32∨c.toNat=9∨c.toNat=10∨c.toNat=13)=True:=eq_true (by omega)
  repeat (first|refine sc rfl ?_|refine so rfl ?_)
  refine O_loadP 0 (reads_box 1) rfl rfl rfl rfl rfl rfl ?_
  repeat refine so rfl ?_
  refine O_Xn (X_storeP 0 (writes_box (by show 1<3;decide)) rfl rfl rfl rfl rfl rfl rfl) ?_
  repeat (first|refine sc rfl ?_|refine so rfl ?_)
  rw [w64 (x:=(i:Int)+1) (by omega) (by omega)]
  exact ⟨_,[lexA b s (i+1) h,tokA h ts],_,rfl,.refl _,rfl,by rw [hF];simp only [h1,h2,n1,nb,Bool.false_eq_true,if_false,if_true];exact ⟨rfl,h,by rw [List.append_nil]⟩⟩
 have nb:(c.toNat=32∨c.toNat=9∨c.toNat=10∨c.toNat=13)=False:=eq_false (by omega)
 repeat (first|refine sc rfl ?_|refine so rfl ?_)
 refine O_cP (IndexByte_c signsL c) fun r hr=>?_
 subst hr
 repeat refine so rfl ?_
 refine C_if rfl (fun m6=>?_) (fun m6=>?_)<;>simp only [pL] at m6
 ·repeat (first|refine sc rfl ?_|refine so rfl ?_)
  exact ⟨_,[_,_],_,rfl,.refl _,rfl,by rw [hF];simp only [h1,h2,n1,nb,m6,Bool.false_eq_true,if_false,if_true];exact ⟨rfl,h,by rw [List.append_nil]⟩⟩
 repeat (first|refine sc rfl ?_|refine so rfl ?_)
 refine O_loadP 0 (reads_box 1) rfl rfl rfl rfl rfl rfl ?_
 repeat refine so rfl ?_
 refine O_Xn (X_storeP 0 (writes_box (by show 1<3;decide)) rfl rfl rfl rfl rfl rfl rfl) ?_
 rw [w64 (x:=(i:Int)+1) (by omega) (by omega)]
 repeat refine so rfl ?_
 refine C_drawT 20 20 rfl (by kernel_rfl) (by kernel_rfl) ?_
 repeat refine sd rfl ?_
 refine D_X (.s s) (X_loadP 0 (reads_box 0) rfl rfl rfl rfl rfl rfl) ?_
 repeat refine sd rfl ?_
 refine D_X (I64 ((i:Int)+1)) (X_loadP 0 (reads_box 1) rfl rfl rfl rfl rfl rfl) ?_
 repeat refine sd rfl ?_
 rw [w64 (x:=(i:Int)+1-1) (by omega) (by omega),Int.add_sub_cancel]
 repeat refine sd rfl ?_
 refine D_X (I64 ((i:Int)+1)) (X_loadP 0 (reads_box 1) rfl rfl rfl rfl rfl rfl) ?_
 repeat refine sd rfl ?_
 refine ⟨by omega,?_⟩
 rw [Int.toNat_natCast,show (((i:Int)+1).toNat-i)=1 by omega,hci]
 repeat refine sd rfl ?_
 refine D_X (I64 ((i:Int)+1)) (X_loadP 0 (reads_box 1) rfl rfl rfl rfl rfl rfl) ?_
 repeat refine sd rfl ?_
 rw [w64 (x:=(i:Int)+1-1) (by omega) (by omega),Int.add_sub_cancel]
 repeat refine sd rfl ?_
 refine O_cA [0,0] (put_A b s (i+1) h ts hl 3 [c] 0 (i:Nat)) ?_
 rintro r cs' ⟨rfl,h',rfl⟩
 repeat (first|refine sc rfl ?_|refine so rfl ?_)
 exact ⟨_,[_,_],_,rfl,.refl _,rfl,by rw [hF];simp only [h1,h2,n1,nb,m6,Bool.false_eq_true,if_false,if_true];exact ⟨rfl,h',rfl⟩⟩

def lexF (s:List UInt8):Nat→Nat→List Tok→Int×Int×List Tok
 | 0,i,ts=>(0,0,ts)
 | n+1,i,ts=>if i<s.length then (let q:=oneF s i
   if q.1=0 then lexF s n q.2.1 (ts++q.2.2) else (q.1,(i:Nat),[])) else (0,0,ts++[⟨4,[],0,(s.length:Nat)⟩])
def tokF (s:List UInt8):Int×Int×List Tok:=if 1024<s.length then (3,0,[]) else lexF s (s.length+1) 0 []

theorem tw_pos {p:UInt8→Bool} {s:List UInt8} {i:Nat} (hi:i<s.length) (h:p (s.getD i 0)=true):0<((s.drop i).takeWhile p).length:=by
 have:s.drop i=s[i]::s.drop (i+1):=List.drop_eq_getElem_cons hi
 rw [this,List.takeWhile_cons]
 rw [List.getD_eq_getElem?_getD,List.getElem?_eq_getElem hi] at h
 simp only [Option.getD_some] at h
 rw [h];simp
theorem tw_le {p:UInt8→Bool} {s:List UInt8} {i:Nat} (hi:i≤s.length):i+((s.drop i).takeWhile p).length≤s.length:=by
 have:=(List.takeWhile_sublist p (l:=s.drop i)).length_le
 rw [List.length_drop] at this;omega
theorem oneF_ok {s:List UInt8} {i:Nat} (hi:i<s.length) (h0:(oneF s i).1=0):i<(oneF s i).2.1∧(oneF s i).2.1≤s.length∧(oneF s i).2.2.length≤1:=by
 unfold oneF at h0 ⊢
 simp only [] at h0 ⊢
 cases h1:letB (s.getD i 0) with
 | true =>
  have h2:=tw_pos (p:=innB) hi (by unfold innB;rw [h1];rfl)
  have h3:=tw_le (p:=innB) (Nat.le_of_lt hi)
  simp only [if_true,wordF]
  split<;>simp<;>omega
 | false =>
  rw [h1] at h0
  simp only [Bool.false_eq_true,if_false] at h0 ⊢
  cases h2:digB (s.getD i 0) with
  | true =>
   have h3:=tw_pos (p:=digB) hi h2
   have h4:=tw_le (p:=digB) (Nat.le_of_lt hi)
   simp only [if_true,nmbF]
   repeat' split
   all_goals simp
   all_goals omega
  | false =>
   rw [h2] at h0
   simp only [Bool.false_eq_true,if_false] at h0 ⊢
   by_cases h3:(s.getD i 0).toNat=47
   ·have h4:=tw_pos (p:=nteB) hi (by unfold nteB;rw [h3];rfl)
    have h5:=tw_le (p:=nteB) (Nat.le_of_lt hi)
    simp only [h3,if_true] at h0 ⊢
    split at h0
    ·rename_i h6;simp only [h6,if_true];simp;omega
    ·cases h0
   ·simp only [h3,if_false] at h0 ⊢
    split at h0
    ·rename_i h6;simp only [h6,if_true];simp;omega
    ·rename_i h6
     simp only [h6,if_false]
     split at h0
     ·cases h0
     ·rename_i h7;simp only [h7,if_false];simp;omega

def TokP (s:List UInt8) (r:AV):Prop :=
 ((tokF s).1≠0∧r=.tup [.v (.slice none 0 0),.agg [I64 (tokF s).1,I64 (tokF s).2.1]])∨((tokF s).1=0∧r=.tup [SL 4 Tok.c (tokF s).2.2,.agg [I64 0,I64 0]])

theorem Tokens_c (s:List UInt8):FnP Tryz.prog 55 [.s s] (TokP s):=by
 refine fnP Tryz.func55 fun X=>?_
 repeat (first|refine sc rfl ?_|refine so rfl ?_)
 refine C_if rfl (fun m1=>?_) (fun m1=>?_)<;>simp only [pL] at m1
 ·repeat (first|refine sc rfl ?_|refine so rfl ?_)
  have e:tokF s=(3,0,[]):=by unfold tokF;rw [if_pos (by omega)]
  exact ⟨_,rfl,rfl,.inl ⟨by rw [e];decide,by rw [e];rfl⟩⟩
 have hs:s.length≤1024:=by omega
 have e:tokF s=lexF s (s.length+1) 0 []:=by unfold tokF;rw [if_neg (by omega)]
 repeat (first|refine sc rfl ?_|refine so rfl ?_)
 refine C_absb 4 rfl rfl rfl (fun b=>?_)
 refine C_le _ (Le.addVec 143 4 (fun i=>Tok.c (([]:List Tok).getD i default))) ?_
 refine C_loop (fun q:Nat×Value×List Tok=>⟨[(0,.s s),(2,.v (.slice none 0 0)),(3,.bp 3 0),(4,PT b 0)],[.box 3 62 [I64 0,I64 0],.abs (lexA b s q.1 q.2.1),.abs (tokA q.2.1 q.2.2)]⟩)
  (fun q=>q.1≤s.length∧q.2.2.length≤q.1∧∃ n,s.length-q.1<n∧tokF s=lexF s n q.1 q.2.2) (fun q=>s.length-q.1) (0,.slice none 0 0,[]) ⟨Nat.zero_le _,Nat.le_refl _,s.length+1,by simp,e⟩ (Le.pick [2,1,0] ⟨rfl,rfl,rfl,rfl,trivial⟩ rfl) ?_
 rintro ⟨i,h,ts⟩ ⟨hi,htl,n,hn,hF⟩
 simp only [] at hi htl hn hF
 repeat (first|refine sc rfl ?_|refine so rfl ?_)
 refine O_loadP 1 (reads_box 1) rfl rfl rfl rfl rfl rfl ?_
 repeat refine so rfl ?_
 refine C_if rfl (fun m2=>?_) (fun m2=>?_)<;>simp only [pL] at m2
 ·have hil:i<s.length:=by omega
  repeat (first|refine sc rfl ?_|refine so rfl ?_)
  refine O_loadP 1 (reads_box 1) rfl rfl rfl rfl rfl rfl ?_
  repeat (first|refine sc rfl ?_|refine so rfl ?_)
  refine O_cA [1,1] (one_A b s i h ts (by omega) hil hs) ?_
  rintro r cs' ⟨rfl,h',rfl⟩
  obtain ⟨n,rfl⟩:∃ n',n=n'+1:=⟨n-1,by omega⟩
  simp only [lexF,if_pos hil] at hF
  repeat (first|refine sc rfl ?_|refine so rfl ?_)
  refine C_if rfl (fun m3=>?_) (fun m3=>?_)<;>simp only [pL] at m3
  ·repeat (first|refine sc rfl ?_|refine so rfl ?_)
   rw [if_neg m3] at hF
   exact ⟨_,rfl,rfl,.inl ⟨by rw [hF];exact m3,by rw [hF];rfl⟩⟩
  ·rw [if_pos m3] at hF
   have hok:=oneF_ok hil m3
   repeat refine sc rfl ?_
   exact ⟨((oneF s i).2.1,h',ts++(oneF s i).2.2),⟨hok.2.1,by simp only [List.length_append];omega,n,by simp only [];omega,hF⟩,by simp only [];omega,Le.pick [2,0,0] ⟨rfl,rfl,rfl,rfl,trivial⟩ rfl⟩
 ·obtain rfl:i=s.length:=by omega
  obtain ⟨n,rfl⟩:∃ n',n=n'+1:=⟨n-1,by omega⟩
  simp only [lexF,if_neg (Nat.lt_irrefl _)] at hF
  repeat (first|refine sc rfl ?_|refine so rfl ?_)
  refine O_cA [1,1] (put_A b s s.length h ts (by omega) 4 [] 0 (s.length:Nat)) ?_
  rintro r cs' ⟨rfl,h',rfl⟩
  repeat (first|refine sc rfl ?_|refine so rfl ?_)
  refine O_loadP 0 (reads_box 2) rfl rfl rfl rfl rfl rfl ?_
  generalize hts:ts++[(⟨4,[],0,(s.length:Nat)⟩:Tok)]=T at *
  refine O_le _ (Le.frVec 1 (fun i=>Tok.c (T.getD i default)) rfl (fun i hi=>rfl)) ?_
  refine O_le _ (Le.slotA 0 39 rfl rfl) ?_
  repeat (first|refine sc rfl ?_|refine so rfl ?_)
  exact ⟨_,rfl,rfl,.inr ⟨by rw [hF],by rw [hF];rfl⟩⟩
end Go.Proofs

namespace Go.Sy
open Go.RowKit

section
variable {P:Program} {T:Tab} {X:Ctx P T} {n:Nat} {e:Env} {st:St} {a:Act} {w:World} {ops:Array Oper} {K:St→Prop}

theorem X_field {p:Pl} {t:TypeId} {fields:Array Field} {x:Operand} {f:Nat} {fd:Field} {cells:List AV} {av:AV} {ti:TI} {d:Option Nat} {ty:TypeId} {pos:String} {aft:Array Edge} {gd:Option (Nat×Bool)} {j:Nat} {Si:List (Nat×AV)} {c:List Ch}
  (hP:P.underlying t=some (.struct fields)) (hf:fields[f]?=some fd) (hT:T fd.type=some ti) (hag:ti.agg=false) (hg:guardA ops ⟨Si,c⟩ ⟨d,.field t x f,ty,pos,aft,gd⟩=some true) (hx:opd Si x=some (.agg cells)) (hav:cells[fd.offset]?=some av) (hd:dstOK n d=true) :
  StepX X n ops p Si c c j ⟨d,.field t x f,ty,pos,aft,gd⟩ av :=
 StepX.val hg hd (fun e a w S r r'=>by
  have h1:=opd_sound r' hx
  simp only [Rep] at h1
  obtain ⟨ys,h1,h2⟩:=h1
  obtain ⟨z,z1,z2,z3⟩:=h2.get _ _ hav
  have z1':ys[fd.offset]?=some z:=by simpa using z1
  refine ⟨z,w,e,?_,r,z2⟩
  simp only [execOp,h1,Instr.field,Sem.run_bind,run_underlying hP,Result.andThen_ok,hf,asAgg,part,Sem.run_pure,X.ok.isAgg hT,hag,Bool.false_eq_true,if_false,z1'])
end
end Go.Sy

namespace Go.Sy
open Go.RowKit

def WritesN (A:Abs) (b o:Nat) (new:List AV) (A':Abs):Prop :=
 b∈A.bs∧A'.bs=A.bs∧∀ (G:IM) (w:World) (ys:List Value),A.ok G w→RepIL G new ys →
  ∃ cur tt,w.heap[b]?=some (.cells cur tt (0,0))∧o+ys.length≤cur.size∧∀ w',w'.heap[b]?=some (.cells (writeAt cur o ys) tt (0,0))→A'.ok G w'

theorem writesN_box {b:Nat} {t:TypeId} {cells new:List AV} {o:Nat} (ho:o+new.length≤cells.length):WritesN (boxA b t cells) b o new (boxA b t (cells.take o++new++cells.drop (o+new.length))):=by
 refine ⟨by simp [boxA],rfl,?_⟩
 rintro G w ys ⟨arr,h1,h2⟩ hx
 have hl:=RepIL.len h2
 have hl2:=RepIL.len hx
 simp only [Array.length_toList] at hl
 have hfit:o+ys.length≤arr.size:=by omega
 refine ⟨arr,t,h1,hfit,fun w' hw=>⟨_,hw,RepIL.mk ?_ (fun j c hc=>?_)⟩⟩
 ·simp only [Array.length_toList,writeAt_size,List.length_append,List.length_take,List.length_drop];omega
 ·rw [Array.getElem?_toList,writeAt_get _ _ _ _ hfit]
  by_cases hj:j<o
  ·rw [List.append_assoc,List.getElem?_append_left (by rw [List.length_take];omega),List.getElem?_take,if_pos hj] at hc
   rw [if_neg (by omega)]
   obtain ⟨z,z1,z2,z3⟩:=h2.get _ c hc
   exact ⟨z,by simpa using z1,z2,z3⟩
  ·by_cases hj2:j<o+new.length
   ·rw [List.append_assoc,List.getElem?_append_right (by rw [List.length_take];omega),List.length_take,List.getElem?_append_left (by omega)] at hc
    rw [if_pos (by omega)]
    obtain ⟨z,z1,z2,z3⟩:=hx.get _ c hc
    rw [show j-min o cells.length=j-o by omega] at z1
    exact ⟨z,z1,z2,z3⟩
   ·rw [List.getElem?_append_right (by simp only [List.length_append,List.length_take];omega),List.getElem?_drop] at hc
    rw [if_neg (by omega)]
    obtain ⟨z,z1,z2,z3⟩:=h2.get _ c hc
    simp only [List.length_append,List.length_take] at z1
    rw [show o+new.length+(j-(min o cells.length+new.length))=j by omega] at z1
    exact ⟨z,by simpa using z1,z2,z3⟩

section
variable {P:Program} {T:Tab} {X:Ctx P T} {n:Nat} {e:Env} {st:St} {a:Act} {w:World} {ops:Array Oper} {K:St→Prop}

theorem X_storeB (q:Nat) {p:Pl} {A A':Abs} {t:TypeId} {esz by_:Nat} {z:List Value} {dd:TD} {ad xo:Operand} {b o:Nat} {new:List AV} {ty:TypeId} {pos:String} {aft:Array Edge} {gd:Option (Nat×Bool)} {jj:Nat} {Si:List (Nat×AV)} {c cr:List Ch}
  (hW:WritesN A b o new A') (hg:guardA ops ⟨Si,c⟩ ⟨none,.store t ad xo,ty,pos,aft,gd⟩=some true) (hT:T t=some ⟨esz,by_,true,z,dd⟩) (hp:nthA q c=some (A,cr)) (had:opd Si ad=some (PT b o)) (hx:opd Si xo=some (.agg new)) (hlen:new.length=esz) (himm:AV.imm.immL new=true) :
  StepX X n ops p Si c (.abs A'::cr) jj ⟨none,.store t ad xo,ty,pos,aft,gd⟩ .bad :=
 StepX.skip hg rfl (fun e a w S r r'=>by
  have h1:=opd_sound r' had
  have h2:=opd_sound r' hx
  simp only [Rep] at h1 h2
  obtain ⟨ys,h2,h3⟩:=h2
  obtain ⟨hok,_⟩:=r.heap.nth hp
  have hri:=RepL.toI new himm h3
  obtain ⟨cur,tt,hgc,hfit,hA'⟩:=hW.2.2 _ _ _ hok hri
  have hyl:ys.toList.length=esz:=by rw [← hlen];exact RepIL.len hri
  have hone:∀ v∈ys.toList,v.oneCell'=true:=RepL.one h3
  have hrun0:=run_storeCells_cells (P:=P) b o ys.toList 0 w (fun j hj=>by
    rw [Nat.add_zero,cell_of_row w b _ cur tt (0,0) hgc]
    rw [Array.getElem?_eq_getElem (by omega)];rfl) (fun j hj=>by simp [World.frozen?,hgc]) hone
  rw [Nat.add_zero] at hrun0
  have hsz:ys.size=esz:=by simpa using hyl
  have hrun:(execOp a.eval ⟨none,.store t ad xo,ty,pos,aft,gd⟩).run P w=.ok .skip (w.setCells b o ys.toList):=by
   simp only [execOp,Instr.storeAt,h1,h2,Instr.sureAddr,Sem.run_bind,Sem.run_pure,Result.andThen_ok,storeVar,X.ok.size hT]
   have hc:(Value.agg ys).cells=ys:=rfl
   simp [hc,hsz,hrun0]
  refine ⟨_,e,hrun,r.absTurn (st:=⟨S,c⟩) hp hW.2.1 ?_ (fun b' hb=>?_) ?_ ?_⟩
  ·exact hA' _ (setCells_heap ys.toList b o w cur tt (0,0) hgc)
  ·exact setCells_other ys.toList b o b' w (fun he=>hb (by subst he;exact hW.1))
  ·exact (setCells_misc ys.toList b o w).2
  ·exact (setCells_misc ys.toList b o w).1)
end
end Go.Sy

namespace Go.Proofs
open Go.Sy Go.Lib

structure PS where
 i:Nat
 err:Int
 fat:Int
abbrev PS.c (ts:List Tok) (p:PS):List AV:=[SL 4 Tok.c ts,I64 (p.i:Nat),I64 p.err,I64 p.fat]

def psA (m:Int) (b:Nat) (ts:List Tok) (p:PS):Abs where
 bs:=[b]
 ok:=fun G w=>(boxA b 140 (PS.c ts p)).ok G w∧G 0 0=some (.int .i64 m)
 keep:=fun hG hb h=>⟨(boxA b 140 (PS.c ts p)).keep hG hb h.1,hG.1 _ _ _ h.2⟩
theorem reads_ps {m:Int} {b:Nat} {ts:List Tok} {p:PS} (o:Nat):Reads (psA m b ts p) b o ((PS.c ts p).drop o):=fun G w h=>reads_box o G w h.1
theorem writes_ps {m:Int} {b:Nat} {ts:List Tok} {p p':PS} {o:Nat} {x:AV} (ho:o<4) (he:(PS.c ts p).set o x=PS.c ts p'):Writes (psA m b ts p) b o x (psA m b ts p'):=by
 obtain ⟨h1,h2,h3⟩:=writes_box (b:=b) (t:=140) (cells:=PS.c ts p) (x:=x) (o:=o) (by show o<4;exact ho)
 refine ⟨by simp [psA],rfl,fun G w v h hx hv=>?_⟩
 obtain ⟨a1,a2,a3⟩:=h3 G w v h.1 hx hv
 rw [he] at a3
 exact ⟨a1,a2,a3,h.2⟩

theorem writesN_ps {m:Int} {b:Nat} {ts:List Tok} {p p':PS} {o:Nat} {new:List AV} (ho:o+new.length≤4) (he:(PS.c ts p).take o++new++(PS.c ts p).drop (o+new.length)=PS.c ts p'):WritesN (psA m b ts p) b o new (psA m b ts p'):=by
 obtain ⟨h1,h2,h3⟩:=writesN_box (b:=b) (t:=140) (cells:=PS.c ts p) (new:=new) (o:=o) (by show o+new.length≤4;exact ho)
 refine ⟨by simp [psA],rfl,fun G w ys h hx=>?_⟩
 obtain ⟨cur,tt,a1,a2,a3⟩:=h3 G w ys h.1 hx
 rw [he] at a3
 exact ⟨cur,tt,a1,a2,fun w' hw=>⟨a3 w' hw,h.2⟩⟩

structure TsOK (ts:List Tok):Prop where
 len:ts.length≤2000
 go:∀ i,i<ts.length→((ts.getD i default).kind=1∨(ts.getD i default).kind=2∨(ts.getD i default).text≠[])→i+1<ts.length
 txt:∀ i,i<ts.length→(ts.getD i default).text.length≤1024

def nowF (ts:List Tok) (p:PS):Tok:=ts.getD p.i default
def failF (ts:List Tok) (e:Int) (p:PS):PS:=if p.err=0 then ⟨p.i,e,(nowF ts p).at_⟩ else p
def mayF (ts:List Tok) (s:List UInt8) (p:PS):Bool:=p.err == 0&&((nowF ts p).text == s&&!(s == []))
def PS.next (p:PS):PS:=⟨p.i+1,p.err,p.fat⟩
def mayP (ts:List Tok) (s:List UInt8) (p:PS):PS:=if mayF ts s p then p.next else p
def needF (ts:List Tok) (s:List UInt8) (p:PS):PS:=if mayF ts s p then p.next else failF ts 5 p
def numB (ts:List Tok) (p:PS):PS:=if (nowF ts p).kind≠2 then failF ts 5 p else p
def numV (ts:List Tok) (p:PS):Int:=if (numB ts p).err≠0 then 0 else (nowF ts p).num
def numP (ts:List Tok) (p:PS):PS:=if (numB ts p).err≠0 then numB ts p else (numB ts p).next

section
variable (m:Int) (b:Nat) (ts:List Tok) (hT:TsOK ts)

theorem well_A (p:PS):FnA Tryz.prog 57 [PT b 0] [psA m b ts p] (fun r cs'=>r=B (p.err == 0)∧cs'=[psA m b ts p]):=by
 refine fnA Tryz.func57 fun X=>?_
 repeat (first|refine sc rfl ?_|refine so rfl ?_)
 refine O_loadP 0 (reads_ps 2) rfl rfl rfl rfl rfl rfl ?_
 repeat (first|refine sc rfl ?_|refine so rfl ?_)
 exact ⟨_,[_],_,rfl,.refl _,rfl,rfl,rfl⟩

include hT in
theorem now_A (p:PS) (hp:p.i<ts.length):FnA Tryz.prog 58 [PT b 0] [psA m b ts p] (fun r cs'=>r=.agg (Tok.c (nowF ts p))∧cs'=[psA m b ts p]):=by
 refine fnA Tryz.func58 fun X=>?_
 have:=hT.len
 repeat (first|refine sc rfl ?_|refine so rfl ?_)
 refine C_drawT 20 10 rfl (by kernel_rfl) (by kernel_rfl) ?_
 repeat refine sd rfl ?_
 refine D_X (SL 4 Tok.c ts) (X_loadP 1 (reads_ps 0) rfl rfl rfl rfl rfl rfl) ?_
 repeat refine sd rfl ?_
 refine D_X (I64 (p.i:Nat)) (X_loadP 1 (reads_ps 1) rfl rfl rfl rfl rfl rfl) ?_
 repeat refine sd rfl ?_
 refine ⟨by omega,?_⟩
 rw [Int.toNat_natCast]
 repeat refine sd rfl ?_
 repeat (first|refine sc rfl ?_|refine so rfl ?_)
 exact ⟨_,[_],_,rfl,pickA_perm (is:=[1]) (As:=[_]) rfl,rfl,rfl,rfl⟩

include hT in
theorem fail_A (p:PS) (hp:p.i<ts.length) (e:Int):FnA Tryz.prog 59 [PT b 0,I64 e] [psA m b ts p] (fun r cs'=>r=.tup []∧cs'=[psA m b ts (failF ts e p)]):=by
 refine fnA Tryz.func59 fun X=>?_
 repeat (first|refine sc rfl ?_|refine so rfl ?_)
 refine O_cA [0] (well_A m b ts p) ?_
 rintro r cs' ⟨rfl,rfl⟩
 repeat refine so rfl ?_
 refine C_if rfl (fun m1=>?_) (fun m1=>?_)<;>simp only [pL] at m1
 ·repeat (first|refine sc rfl ?_|refine so rfl ?_)
  refine O_cA [0] (now_A m b ts hT p hp) ?_
  rintro r cs' ⟨rfl,rfl⟩
  repeat refine sc rfl ?_
  refine O_Xd (X_field Tryz.underlying143 rfl rfl rfl rfl rfl rfl rfl) ?_
  repeat refine so rfl ?_
  refine O_Xn (X_storeB 0 (writesN_ps (o:=2) (new:=[I64 e,I64 (nowF ts p).at_]) (p':=failF ts e p) (by show 2+2≤4;decide) (by unfold failF;rw [if_pos m1];rfl)) rfl rfl rfl rfl rfl rfl rfl) ?_
  repeat refine so rfl ?_
  exact ⟨_,[_],_,rfl,.refl _,rfl,rfl,rfl⟩
 ·repeat refine sc rfl ?_
  exact ⟨_,[_],_,rfl,.refl _,rfl,rfl,by unfold failF;rw [if_neg m1]⟩

theorem failF_i (ts:List Tok) (e:Int) (p:PS):(failF ts e p).i=p.i:=by unfold failF;split<;>rfl

include hT in
theorem may_A (p:PS) (hp:p.i<ts.length) (s:List UInt8):FnA Tryz.prog 99 [PT b 0,.s s] [psA m b ts p] (fun r cs'=>r=B (mayF ts s p)∧cs'=[psA m b ts (mayP ts s p)]):=by
 refine fnA Tryz.func99 fun X=>?_
 have hlen:=hT.len
 unfold mayP mayF
 repeat (first|refine sc rfl ?_|refine so rfl ?_)
 refine O_cA [0] (well_A m b ts p) ?_
 rintro r cs' ⟨rfl,rfl⟩
 repeat refine so rfl ?_
 cases h1:p.err == 0 with
 | false =>
  repeat refine so rfl ?_
  refine C_true rfl rfl ?_
  repeat (first|refine sc rfl ?_|refine so rfl ?_)
  exact ⟨_,[_],_,rfl,.refl _,rfl,rfl,rfl⟩
 | true =>
  repeat refine so rfl ?_
  refine O_cA [0] (now_A m b ts hT p hp) ?_
  rintro r cs' ⟨rfl,rfl⟩
  repeat refine sc rfl ?_
  refine O_Xd (X_field Tryz.underlying143 rfl rfl rfl rfl rfl rfl rfl) ?_
  repeat refine so rfl ?_
  cases h2:(nowF ts p).text == s with
  | false =>
   repeat refine so rfl ?_
   refine C_true rfl rfl ?_
   repeat (first|refine sc rfl ?_|refine so rfl ?_)
   exact ⟨_,[_],_,rfl,.refl _,rfl,rfl,rfl⟩
  | true =>
   repeat refine so rfl ?_
   cases h3:s == [] with
   | true =>
    refine C_true rfl rfl ?_
    repeat (first|refine sc rfl ?_|refine so rfl ?_)
    exact ⟨_,[_],_,rfl,.refl _,rfl,rfl,rfl⟩
   | false =>
    refine C_false rfl rfl ?_
    repeat (first|refine sc rfl ?_|refine so rfl ?_)
    refine O_loadP 0 (reads_ps 1) rfl rfl rfl rfl rfl rfl ?_
    repeat refine so rfl ?_
    rw [w64 (x:=(p.i:Int)+1) (by omega) (by omega)]
    refine O_Xn (X_storeP 0 (writes_ps (p':=p.next) (by decide) rfl) rfl rfl rfl rfl rfl rfl rfl) ?_
    repeat (first|refine sc rfl ?_|refine so rfl ?_)
    exact ⟨_,[_],_,rfl,.refl _,rfl,rfl,rfl⟩

include hT in
theorem need_A (p:PS) (hp:p.i<ts.length) (s:List UInt8):FnA Tryz.prog 97 [PT b 0,.s s] [psA m b ts p] (fun r cs'=>r=.tup []∧cs'=[psA m b ts (needF ts s p)]):=by
 refine fnA Tryz.func97 fun X=>?_
 repeat (first|refine sc rfl ?_|refine so rfl ?_)
 refine O_cA [0] (may_A m b ts hT p hp s) ?_
 rintro r cs' ⟨rfl,rfl⟩
 unfold mayP needF
 repeat refine so rfl ?_
 cases h1:mayF ts s p with
 | true =>
  refine C_false rfl rfl ?_
  repeat refine sc rfl ?_
  exact ⟨_,[_],_,rfl,.refl _,rfl,rfl,rfl⟩
 | false =>
  refine C_true rfl rfl ?_
  simp only [Bool.false_eq_true,if_false]
  repeat (first|refine sc rfl ?_|refine so rfl ?_)
  refine O_cA [0] (fail_A m b ts hT p hp 5) ?_
  rintro r cs' ⟨rfl,rfl⟩
  repeat refine so rfl ?_
  exact ⟨_,[_],_,rfl,.refl _,rfl,rfl,rfl⟩

include hT in
theorem number_A2 (p:PS) (hp:p.i<ts.length):FnA Tryz.prog 95 [PT b 0] [psA m b ts p] (fun r cs'=>r=I64 (numV ts p)∧cs'=[psA m b ts (numP ts p)]):=by
 refine fnA Tryz.func95 fun X=>?_
 have hlen:=hT.len
 unfold numV numP
 repeat (first|refine sc rfl ?_|refine so rfl ?_)
 refine O_cA [0] (now_A m b ts hT p hp) ?_
 rintro r cs' ⟨rfl,rfl⟩
 repeat (first|refine sc rfl ?_|refine so rfl ?_)
 refine C_ifJ ⟨[(0,PT b 0),(3,.bp 3 0)],[.box 3 143 (Tok.c (nowF ts p)),.abs (psA m b ts (numB ts p))]⟩ rfl (fun m1=>?_) (fun m1=>?_) (fun st h=>C_le _ h ?_)
 ·simp only [pL] at m1
  repeat (first|refine sc rfl ?_|refine so rfl ?_)
  refine O_cA [1] (fail_A m b ts hT p hp 5) ?_
  rintro r cs' ⟨rfl,rfl⟩
  repeat refine so rfl ?_
  have e1:numB ts p=failF ts 5 p:=by unfold numB;rw [if_pos m1]
  rw [e1]
  exact Le.pick [1,0] ⟨rfl,rfl,trivial⟩ rfl
 ·simp only [pL] at m1
  repeat refine sc rfl ?_
  have e1:numB ts p=p:=by unfold numB;rw [if_neg (fun h=>h m1)]
  rw [e1]
  exact Le.pick [0,0] ⟨rfl,rfl,trivial⟩ rfl
 have hi:(numB ts p).i=p.i:=by unfold numB;split;exact failF_i ts 5 p;rfl
 generalize numB ts p=q at *
 repeat (first|refine sc rfl ?_|refine so rfl ?_)
 refine O_cA [1] (well_A m b ts q) ?_
 rintro r cs' ⟨rfl,rfl⟩
 repeat refine so rfl ?_
 refine C_if rfl (fun m2=>?_) (fun m2=>?_)<;>simp only [pL] at m2
 ·repeat (first|refine sc rfl ?_|refine so rfl ?_)
  exact ⟨_,[_],_,rfl,.refl _,rfl,by rw [if_pos m2],by rw [if_pos m2]⟩
 ·repeat (first|refine sc rfl ?_|refine so rfl ?_)
  refine O_loadP 0 (reads_ps 1) rfl rfl rfl rfl rfl rfl ?_
  repeat refine so rfl ?_
  rw [w64 (x:=(q.i:Int)+1) (by omega) (by omega)]
  refine O_Xn (X_storeP 0 (writes_ps (p':=q.next) (by decide) rfl) rfl rfl rfl rfl rfl rfl rfl) ?_
  repeat (first|refine sc rfl ?_|refine so rfl ?_)
  exact ⟨_,[_],_,rfl,.refl _,rfl,by rw [if_neg (fun h=>h m2)],by rw [if_neg (fun h=>h m2)]⟩
end
end Go.Proofs

namespace Go.Proofs
open Go.Sy Go.Lib

def plainF (t:List UInt8):Int:=if t=[98,111,111,108] then 1 else if t=[105,110,116] then 2 else if t=[117,105,110,116] then 3 else if t=[116,101,120,116] then 4 else if t=[98,121,116,101,115] then 5 else 0

theorem plain_c (t:List UInt8):FnP Tryz.prog 153 [.s t] (·=I64 (plainF t)):=by
 refine fnP Tryz.func153 fun X=>?_
 unfold plainF
 repeat (first|refine sc rfl ?_|refine so rfl ?_)
 refine C_if rfl (fun h1=>?_) (fun h1=>?_)<;>simp only [pL] at h1
 ·repeat (first|refine sc rfl ?_|refine so rfl ?_)
  exact ⟨_,rfl,rfl,by rw [if_pos h1]⟩
 repeat (first|refine sc rfl ?_|refine so rfl ?_)
 refine C_if rfl (fun h2=>?_) (fun h2=>?_)<;>simp only [pL] at h2
 ·repeat (first|refine sc rfl ?_|refine so rfl ?_)
  exact ⟨_,rfl,rfl,by rw [if_neg h1,if_pos h2]⟩
 repeat (first|refine sc rfl ?_|refine so rfl ?_)
 refine C_if rfl (fun h3=>?_) (fun h3=>?_)<;>simp only [pL] at h3
 ·repeat (first|refine sc rfl ?_|refine so rfl ?_)
  exact ⟨_,rfl,rfl,by rw [if_neg h1,if_neg h2,if_pos h3]⟩
 repeat (first|refine sc rfl ?_|refine so rfl ?_)
 refine C_if rfl (fun h4=>?_) (fun h4=>?_)<;>simp only [pL] at h4
 ·repeat (first|refine sc rfl ?_|refine so rfl ?_)
  exact ⟨_,rfl,rfl,by rw [if_neg h1,if_neg h2,if_neg h3,if_pos h4]⟩
 repeat (first|refine sc rfl ?_|refine so rfl ?_)
 refine C_if rfl (fun h5=>?_) (fun h5=>?_)<;>simp only [pL] at h5
 ·repeat (first|refine sc rfl ?_|refine so rfl ?_)
  exact ⟨_,rfl,rfl,by rw [if_neg h1,if_neg h2,if_neg h3,if_neg h4,if_pos h5]⟩
 repeat (first|refine sc rfl ?_|refine so rfl ?_)
 exact ⟨_,rfl,rfl,by rw [if_neg h1,if_neg h2,if_neg h3,if_neg h4,if_neg h5]⟩

def Knows (m:Int) (A:Abs):Prop:=∀ G w,A.ok G w→G 0 0=some (.int .i64 m)
theorem knows_ps (m:Int) (b:Nat) (ts:List Tok) (p:PS):Knows m (psA m b ts p):=fun G w h=>h.2

theorem Contains_A {m:Int} {A:Abs} (hA:Knows m A) (s sub:List UInt8) (hs:s.length<4294967281):FnA Tryz.prog 152 [.s s,.s sub] [A] (fun r cs'=>r=B (Lib.contains s sub)∧cs'=[A]):=by
 refine ⟨⟨_,Tryz.func152,rfl,by decide⟩,fun G w cargs him hr hok=>?_⟩
 simp only [RepIT,RepI] at hr
 obtain ⟨_,_,rfl,rfl,_,_,rfl,rfl,rfl⟩:=hr
 have hm:=him.1 _ _ _ (hA G w (hok.1 A (by simp)))
 refine (Tryz.strings_Contains ⟨s.toArray⟩ ⟨sub.toArray⟩ m w (by show s.toArray.size<_;simpa using hs) hm).mono ?_
 rintro e w' ⟨rfl,rfl⟩
 exact ⟨B (Lib.contains s sub),_,[A],G,⟨rfl,rfl⟩,rfl,by simp only [RepI],IM.le_refl _,⟨fun b o v h=>.inl h,fun b x h=>.inl h⟩,him,hok,fun b hb=>.inr hb,rfl,rfl,rfl,Nat.le_refl _,fun _ _ _ _=>rfl⟩

def wordsL:List UInt8:=[32,115,116,114,117,99,116,32,117,110,105,111,110,32,101,110,117,109,32,115,101,114,118,105,99,101,32,98,111,111,108,32,105,110,116,32,117,105,110,116,32,116,101,120,116,32,98,121,116,101,115,32,108,105,115,116,32,109,97,112,32,111,110,101,119,97,121,32]
def wordB (t:List UInt8):Bool:=!(t == [])&&(!(Lib.contains t [32])&&Lib.contains wordsL ([32]++t++[32]))

theorem Word_A {m:Int} {A:Abs} (hA:Knows m A) (t:List UInt8) (ht:t.length≤1024):FnA Tryz.prog 131 [.s t] [A] (fun r cs'=>r=B (wordB t)∧cs'=[A]):=by
 refine fnA Tryz.func131 fun X=>?_
 unfold wordB
 repeat (first|refine sc rfl ?_|refine so rfl ?_)
 cases h1:t == [] with
 | true =>
  repeat (first|refine sc rfl ?_|refine so rfl ?_)
  exact ⟨_,[_],_,rfl,.refl _,rfl,rfl,rfl⟩
 | false =>
  repeat refine so rfl ?_
  refine O_cA [0] (Contains_A hA t [32] (by omega)) ?_
  rintro r cs' ⟨rfl,rfl⟩
  repeat refine so rfl ?_
  cases h2:Lib.contains t [32] with
  | true =>
   repeat (first|refine sc rfl ?_|refine so rfl ?_)
   exact ⟨_,[_],_,rfl,.refl _,rfl,rfl,rfl⟩
  | false =>
   repeat refine so rfl ?_
   refine ⟨by simp only [List.length_cons,List.length_nil];omega,?_⟩
   repeat refine so rfl ?_
   refine ⟨by simp only [List.length_append,List.length_cons,List.length_nil];omega,?_⟩
   repeat refine sc rfl ?_
   refine O_cA [0] (Contains_A hA wordsL ([32]++t++[32]) (by decide)) ?_
   rintro r cs' ⟨rfl,rfl⟩
   repeat (first|refine sc rfl ?_|refine so rfl ?_)
   exact ⟨_,[_],_,rfl,.refl _,rfl,rfl,rfl⟩

def badN (t:Tok):Bool:=t.kind != 1||wordB t.text
def nmB (ts:List Tok) (p:PS):PS:=if badN (nowF ts p) then failF ts 5 p else p
def nameV (ts:List Tok) (p:PS):List UInt8:=if (nmB ts p).err≠0 then [] else (nowF ts p).text
def nameP (ts:List Tok) (p:PS):PS:=if (nmB ts p).err≠0 then nmB ts p else (nmB ts p).next

section
variable (m:Int) (b:Nat) (ts:List Tok) (hT:TsOK ts)
include hT in
theorem name_A (p:PS) (hp:p.i<ts.length):FnA Tryz.prog 96 [PT b 0] [psA m b ts p] (fun r cs'=>r=.s (nameV ts p)∧cs'=[psA m b ts (nameP ts p)]):=by
 refine fnA Tryz.func96 fun X=>?_
 have hlen:=hT.len
 have htx:=hT.txt p.i hp
 unfold nameV nameP
 repeat (first|refine sc rfl ?_|refine so rfl ?_)
 refine O_cA [0] (now_A m b ts hT p hp) ?_
 rintro r cs' ⟨rfl,rfl⟩
 iterate 6 (first|refine sc rfl ?_|refine so rfl ?_)
 refine O_join ⟨[(0,PT b 0),(3,.bp 3 0),(13,B (badN (nowF ts p)))],[.box 3 143 (Tok.c (nowF ts p)),.abs (psA m b ts p)]⟩ ?_ (fun s hs=>?_)
 ·repeat refine so rfl ?_
  cases h1:(nowF ts p).kind != 1 with
  | true =>
   repeat refine so rfl ?_
   have e1:badN (nowF ts p)=true:=by unfold badN;rw [h1];rfl
   rw [e1]
   exact Le.pick [0,0] ⟨rfl,rfl,rfl,trivial⟩ rfl
  | false =>
   repeat refine so rfl ?_
   refine O_cA [1] (Word_A (knows_ps m b ts p) (nowF ts p).text htx) ?_
   rintro r cs' ⟨rfl,rfl⟩
   repeat refine so rfl ?_
   have e1:badN (nowF ts p)=wordB (nowF ts p).text:=by unfold badN;rw [h1];rfl
   rw [e1]
   exact Le.pick [1,0] ⟨rfl,rfl,rfl,trivial⟩ rfl
 refine C_le _ hs ?_
 repeat refine sc rfl ?_
 refine C_ifJ ⟨[(0,PT b 0),(3,.bp 3 0)],[.box 3 143 (Tok.c (nowF ts p)),.abs (psA m b ts (nmB ts p))]⟩ rfl (fun m1=>?_) (fun m1=>?_) (fun st h=>C_le _ h ?_)
 ·repeat (first|refine sc rfl ?_|refine so rfl ?_)
  refine O_cA [1] (fail_A m b ts hT p hp 5) ?_
  rintro r cs' ⟨rfl,rfl⟩
  repeat refine so rfl ?_
  have e1:nmB ts p=failF ts 5 p:=by unfold nmB;rw [if_pos m1]
  rw [e1]
  exact Le.pick [1,0] ⟨rfl,rfl,trivial⟩ rfl
 ·repeat refine sc rfl ?_
  have e1:nmB ts p=p:=by unfold nmB;rw [m1];rfl
  rw [e1]
  exact Le.pick [0,0] ⟨rfl,rfl,trivial⟩ rfl
 have hi:(nmB ts p).i=p.i:=by unfold nmB;split;exact failF_i ts 5 p;rfl
 generalize nmB ts p=q at *
 repeat (first|refine sc rfl ?_|refine so rfl ?_)
 refine O_cA [1] (well_A m b ts q) ?_
 rintro r cs' ⟨rfl,rfl⟩
 repeat refine so rfl ?_
 refine C_if rfl (fun m2=>?_) (fun m2=>?_)<;>simp only [pL] at m2
 ·repeat (first|refine sc rfl ?_|refine so rfl ?_)
  exact ⟨_,[_],_,rfl,.refl _,rfl,by rw [if_pos m2],by rw [if_pos m2]⟩
 ·repeat (first|refine sc rfl ?_|refine so rfl ?_)
  refine O_loadP 0 (reads_ps 1) rfl rfl rfl rfl rfl rfl ?_
  repeat refine so rfl ?_
  rw [w64 (x:=(q.i:Int)+1) (by omega) (by omega)]
  refine O_Xn (X_storeP 0 (writes_ps (p':=q.next) (by decide) rfl) rfl rfl rfl rfl rfl rfl rfl) ?_
  repeat (first|refine sc rfl ?_|refine so rfl ?_)
  exact ⟨_,[_],_,rfl,.refl _,rfl,by rw [if_neg (fun h=>h m2)],by rw [if_neg (fun h=>h m2)]⟩
end
end Go.Proofs

namespace Go.Proofs
open Go.Sy Go.Lib

def dpP (ts:List Tok) (deep:Int) (p:PS):PS:=if 8<deep then failF ts 10 p else p
def baseF (ts:List Tok) (rec:Int→PS→Ty×PS) (deep:Int) (p:PS):Ty×PS :=
 if 0<plainF (nowF ts p).text then (⟨plainF (nowF ts p).text,[],[]⟩,p.next) else
 if mayF ts [108,105,115,116] p then (⟨7,[],[(rec (deep+1) (needF ts [60] p.next)).1]⟩,needF ts [62] (rec (deep+1) (needF ts [60] p.next)).2) else
 if mayF ts [109,97,112] p then (⟨8,[],[(rec (deep+1) (needF ts [60] p.next)).1,(rec (deep+1) (needF ts [44] (rec (deep+1) (needF ts [60] p.next)).2)).1]⟩,
  needF ts [62] (rec (deep+1) (needF ts [44] (rec (deep+1) (needF ts [60] p.next)).2)).2) else
 (⟨6,nameV ts p,[]⟩,nameP ts p)
def typF (ts:List Tok):Nat→Int→PS→Ty×PS
 | 0,_,p=>(default,p)
 | n+1,deep,p=>if (dpP ts deep p).err≠0 then (⟨0,[],[]⟩,dpP ts deep p) else
  if mayF ts [63] (baseF ts (typF ts n) deep (dpP ts deep p)).2 then (⟨9,[],[(baseF ts (typF ts n) deep (dpP ts deep p)).1]⟩,(baseF ts (typF ts n) deep (dpP ts deep p)).2.next)
  else baseF ts (typF ts n) deep (dpP ts deep p)

section
variable {ts:List Tok} (hT:TsOK ts)
theorem failF_err (ts:List Tok) {e:Int} (he:e≠0) (p:PS):(failF ts e p).err≠0:=by
 unfold failF;split
 ·exact he
 ·assumption
include hT in
theorem next_lt {p:PS} {s:List UInt8} (hp:p.i<ts.length) (h:mayF ts s p=true):p.next.i<ts.length:=by
 simp only [mayF,Bool.and_eq_true,beq_iff_eq,Bool.not_eq_true',beq_eq_false_iff_ne] at h
 exact hT.go p.i hp (.inr (.inr (by show (nowF ts p).text≠[];rw [h.2.1];exact h.2.2)))
include hT in
theorem may_lt {p:PS} (hp:p.i<ts.length) (s:List UInt8):(mayP ts s p).i<ts.length:=by
 unfold mayP;split
 ·exact next_lt hT hp (by assumption)
 ·exact hp
include hT in
theorem need_lt {p:PS} (hp:p.i<ts.length) (s:List UInt8):(needF ts s p).i<ts.length:=by
 unfold needF;split
 ·exact next_lt hT hp (by assumption)
 ·rw [failF_i];exact hp
include hT in
theorem name_lt {p:PS} (hp:p.i<ts.length):(nameP ts p).i<ts.length:=by
 unfold nameP
 have hi:(nmB ts p).i=p.i:=by unfold nmB;split;exact failF_i ts 5 p;rfl
 split
 ·rw [hi];exact hp
 ·rename_i h
  show (nmB ts p).i+1<_
  rw [hi]
  refine hT.go p.i hp (.inl ?_)
  cases hb:badN (nowF ts p) with
  | true=>exact absurd (by unfold nmB;rw [if_pos hb];exact failF_err ts (by decide) p) h
  | false =>
   simp only [badN,Bool.or_eq_false_iff,bne_eq_false_iff_eq] at hb
   exact hb.1
include hT in
theorem num_lt {p:PS} (hp:p.i<ts.length):(numP ts p).i<ts.length:=by
 unfold numP
 have hi:(numB ts p).i=p.i:=by unfold numB;split;exact failF_i ts 5 p;rfl
 split
 ·rw [hi];exact hp
 ·rename_i h
  show (numB ts p).i+1<_
  rw [hi]
  refine hT.go p.i hp (.inr (.inl ?_))
  by_cases hb:(nowF ts p).kind=2
  ·exact hb
  ·exact absurd (by unfold numB;rw [if_pos hb];exact failF_err ts (by decide) p) h
theorem plainF_text {t:List UInt8} (h:0<plainF t):t≠[]:=by
 rintro rfl
 revert h;decide
include hT in
theorem base_lt {rec:Int→PS→Ty×PS} {deep:Int} (hr:∀ p:PS,p.i<ts.length→(rec (deep+1) p).2.i<ts.length) {p:PS} (hp:p.i<ts.length):(baseF ts rec deep p).2.i<ts.length:=by
 unfold baseF
 split
 ·rename_i h;exact hT.go p.i hp (.inr (.inr (plainF_text h)))
 ·split
  ·rename_i h;exact need_lt hT (hr _ (need_lt hT (next_lt hT hp h) _)) _
  ·split
   ·rename_i h;exact need_lt hT (hr _ (need_lt hT (hr _ (need_lt hT (next_lt hT hp h) _)) _)) _
   ·exact name_lt hT hp
include hT in
theorem typ_lt:∀ (n:Nat) (deep:Int) (p:PS),p.i<ts.length→(typF ts n deep p).2.i<ts.length
 | 0,_,p,hp=>hp
 | n+1,deep,p,hp=>by
  have hd:(dpP ts deep p).i<ts.length:=by unfold dpP;split;rw [failF_i];exact hp;exact hp
  have hb:=base_lt hT (rec:=typF ts n) (deep:=deep) (fun q hq=>typ_lt n (deep+1) q hq) hd
  unfold typF
  split
  ·exact hd
  ·split
   ·rename_i h;exact next_lt hT hb h
   ·exact hb
end

section
variable (m:Int) (b:Nat) (ts:List Tok) (hT:TsOK ts)
include hT in
theorem base_A (rec:Int→PS→Ty×PS) (deep:Int) (hd:0≤deep∧deep≤8) (hrl:∀ p:PS,p.i<ts.length→(rec (deep+1) p).2.i<ts.length)
  (hrec:∀ p:PS,p.i<ts.length→FnA Tryz.prog 98 [PT b 0,I64 (deep+1)] [psA m b ts p] (fun r cs'=>r=.agg (Ty.c (rec (deep+1) p).1)∧cs'=[psA m b ts (rec (deep+1) p).2])) (p:PS) (hp:p.i<ts.length) :
  FnA Tryz.prog 132 [PT b 0,I64 deep] [psA m b ts p] (fun r cs'=>r=.agg (Ty.c (baseF ts rec deep p).1)∧cs'=[psA m b ts (baseF ts rec deep p).2]):=by
 refine fnA Tryz.func132 fun X=>?_
 have hlen:=hT.len
 repeat (first|refine sc rfl ?_|refine so rfl ?_)
 refine O_cA [1] (now_A m b ts hT p hp) ?_
 rintro r cs' ⟨rfl,rfl⟩
 repeat (first|refine sc rfl ?_|refine so rfl ?_)
 refine O_cP (plain_c (nowF ts p).text) fun r hr=>?_
 subst hr
 repeat (first|refine sc rfl ?_|refine so rfl ?_)
 refine C_if rfl (fun m1=>?_) (fun m1=>?_)<;>simp only [pL] at m1
 ·have hF:baseF ts rec deep p=(⟨plainF (nowF ts p).text,[],[]⟩,p.next):=by unfold baseF;rw [if_pos m1]
  rw [hF]
  repeat (first|refine sc rfl ?_|refine so rfl ?_)
  refine O_loadP 1 (reads_ps 1) rfl rfl rfl rfl rfl rfl ?_
  repeat refine so rfl ?_
  rw [w64 (x:=(p.i:Int)+1) (by omega) (by omega)]
  refine O_Xn (X_storeP 1 (writes_ps (p':=p.next) (by decide) rfl) rfl rfl rfl rfl rfl rfl rfl) ?_
  repeat (first|refine O_le _ (Le.agg 25 [I64 (plainF (nowF ts p).text),.s [],.sl ([]:List Ty).length 3 (Ty.rows ([]:List Ty))] rfl (.cons .refl (.cons .refl (.cons .nil .nil)))) ?_|refine sc rfl ?_|refine so rfl ?_|refine sb rfl ?_)
  exact ⟨_,[_],_,rfl,pickA_perm (is:=[1]) (As:=[_]) rfl,rfl,rfl,rfl⟩
 repeat (first|refine sc rfl ?_|refine so rfl ?_)
 refine O_cA [1] (may_A m b ts hT p hp [108,105,115,116]) ?_
 rintro r cs' ⟨rfl,rfl⟩
 unfold mayP
 repeat refine so rfl ?_
 cases h2:mayF ts [108,105,115,116] p with
 | true =>
  have hF:baseF ts rec deep p=(⟨7,[],[(rec (deep+1) (needF ts [60] p.next)).1]⟩,needF ts [62] (rec (deep+1) (needF ts [60] p.next)).2):=by unfold baseF;rw [if_neg m1,if_pos h2]
  have l1:=next_lt hT hp h2
  have l2:=need_lt hT l1 [60]
  rw [hF]
  refine C_true rfl rfl ?_
  simp only [if_true]
  repeat (first|refine sc rfl ?_|refine so rfl ?_)
  refine O_cA [0] (need_A m b ts hT p.next l1 [60]) ?_
  rintro r cs' ⟨rfl,rfl⟩
  repeat (first|refine sc rfl ?_|refine so rfl ?_)
  rw [w64 (x:=deep+1) (by omega) (by omega)]
  generalize needF ts [60] p.next=p2 at *
  refine O_cA [0] (hrec p2 l2) ?_
  rintro r cs' ⟨rfl,rfl⟩
  have l3:=hrl p2 l2
  generalize rec (deep+1) p2=x at *
  obtain ⟨x1,p3⟩:=x
  simp only [] at l3 ⊢
  repeat (first|refine sc rfl ?_|refine so rfl ?_)
  refine O_cA [1] (need_A m b ts hT p3 l3 [62]) ?_
  rintro r cs' ⟨rfl,rfl⟩
  repeat (first|refine O_le _ (Le.lit 38 Ty.c ([x1]:List Ty) rfl rfl rfl (by intro j hj;match j,hj with|0,_=>rfl)) ?_|refine O_le _ (Le.agg 39 [I64 7,.s [],.sl ([x1]:List Ty).length 3 (Ty.rows ([x1]:List Ty))] rfl (.cons .refl (.cons .refl (.cons (.row (fun i hi=>(Ty.rows_eq _ i hi).symm)) .nil)))) ?_|refine sc rfl ?_|refine so rfl ?_|refine sb rfl ?_)
  exact ⟨_,[_],_,rfl,pickA_perm (is:=[1]) (As:=[_]) rfl,rfl,rfl,rfl⟩
 | false =>
 refine C_false rfl rfl ?_
 simp only [Bool.false_eq_true,if_false]
 repeat (first|refine sc rfl ?_|refine so rfl ?_)
 refine O_cA [0] (may_A m b ts hT p hp [109,97,112]) ?_
 rintro r cs' ⟨rfl,rfl⟩
 unfold mayP
 repeat refine so rfl ?_
 cases h3:mayF ts [109,97,112] p with
 | true =>
  have hF:baseF ts rec deep p=(⟨8,[],[(rec (deep+1) (needF ts [60] p.next)).1,(rec (deep+1) (needF ts [44] (rec (deep+1) (needF ts [60] p.next)).2)).1]⟩,
   needF ts [62] (rec (deep+1) (needF ts [44] (rec (deep+1) (needF ts [60] p.next)).2)).2):=by unfold baseF;rw [if_neg m1,if_neg (by rw [h2];decide),if_pos h3]
  have l1:=next_lt hT hp h3
  have l2:=need_lt hT l1 [60]
  rw [hF]
  refine C_true rfl rfl ?_
  simp only [if_true]
  repeat (first|refine sc rfl ?_|refine so rfl ?_)
  refine O_cA [0] (need_A m b ts hT p.next l1 [60]) ?_
  rintro r cs' ⟨rfl,rfl⟩
  repeat (first|refine sc rfl ?_|refine so rfl ?_)
  rw [w64 (x:=deep+1) (by omega) (by omega)]
  generalize needF ts [60] p.next=p2 at *
  refine O_cA [0] (hrec p2 l2) ?_
  rintro r cs' ⟨rfl,rfl⟩
  have l3:=hrl p2 l2
  generalize rec (deep+1) p2=x at *
  obtain ⟨x1,p3⟩:=x
  simp only [] at l3 ⊢
  repeat (first|refine sc rfl ?_|refine so rfl ?_)
  refine O_cA [1] (need_A m b ts hT p3 l3 [44]) ?_
  rintro r cs' ⟨rfl,rfl⟩
  have l4:=need_lt hT l3 [44]
  generalize needF ts [44] p3=p4 at *
  repeat (first|refine sc rfl ?_|refine so rfl ?_)
  rw [w64 (x:=deep+1) (by omega) (by omega)]
  refine O_cA [0] (hrec p4 l4) ?_
  rintro r cs' ⟨rfl,rfl⟩
  have l5:=hrl p4 l4
  generalize rec (deep+1) p4=y at *
  obtain ⟨x2,p5⟩:=y
  simp only [] at l5 ⊢
  repeat (first|refine sc rfl ?_|refine so rfl ?_)
  refine O_cA [1] (need_A m b ts hT p5 l5 [62]) ?_
  rintro r cs' ⟨rfl,rfl⟩
  repeat (first|refine O_le _ (Le.lit 59 Ty.c ([x1,x2]:List Ty) rfl rfl rfl (by intro j hj;match j,hj with|0,_=>rfl|1,_=>rfl)) ?_|refine O_le _ (Le.agg 60 [I64 8,.s [],.sl ([x1,x2]:List Ty).length 3 (Ty.rows ([x1,x2]:List Ty))] rfl (.cons .refl (.cons .refl (.cons (.row (fun i hi=>(Ty.rows_eq _ i hi).symm)) .nil)))) ?_|refine sc rfl ?_|refine so rfl ?_|refine sb rfl ?_)
  exact ⟨_,[_],_,rfl,pickA_perm (is:=[1]) (As:=[_]) rfl,rfl,rfl,rfl⟩
 | false =>
 have hF:baseF ts rec deep p=(⟨6,nameV ts p,[]⟩,nameP ts p):=by unfold baseF;rw [if_neg m1,if_neg (by rw [h2];decide),if_neg (by rw [h3];decide)]
 rw [hF]
 refine C_false rfl rfl ?_
 simp only [Bool.false_eq_true,if_false]
 repeat (first|refine sc rfl ?_|refine so rfl ?_)
 refine O_cA [0] (name_A m b ts hT p hp) ?_
 rintro r cs' ⟨rfl,rfl⟩
 repeat (first|refine O_le _ (Le.agg 63 [I64 6,.s (nameV ts p),.sl ([]:List Ty).length 3 (Ty.rows ([]:List Ty))] rfl (.cons .refl (.cons .refl (.cons .nil .nil)))) ?_|refine sc rfl ?_|refine so rfl ?_|refine sb rfl ?_)
 exact ⟨_,[_],_,rfl,pickA_perm (is:=[1]) (As:=[_]) rfl,rfl,rfl,rfl⟩

include hT in
theorem typ_A:∀ (n:Nat) (deep:Int) (hd:0≤deep∧deep≤9) (hn:10≤deep+n) (p:PS) (hp:p.i<ts.length),
  FnA Tryz.prog 98 [PT b 0,I64 deep] [psA m b ts p] (fun r cs'=>r=.agg (Ty.c (typF ts n deep p).1)∧cs'=[psA m b ts (typF ts n deep p).2])
 | 0,deep,hd,hn,p,hp=>by omega
 | n+1,deep,hd,hn,p,hp=>by
  refine fnA Tryz.func98 fun X=>?_
  have hlen:=hT.len
  have hdl:(dpP ts deep p).i<ts.length:=by unfold dpP;split;rw [failF_i];exact hp;exact hp
  have hbl:=base_lt hT (rec:=typF ts n) (deep:=deep) (fun q hq=>typ_lt hT n (deep+1) q hq) hdl
  have hd8:(dpP ts deep p).err=0→deep≤8:=fun h=>by
   by_cases h8:8<deep
   ·exact absurd h (by unfold dpP;rw [if_pos h8];exact failF_err ts (by decide) p)
   ·omega
  have hF:typF ts (n+1) deep p=(if (dpP ts deep p).err≠0 then (⟨0,[],[]⟩,dpP ts deep p) else
   if mayF ts [63] (baseF ts (typF ts n) deep (dpP ts deep p)).2 then (⟨9,[],[(baseF ts (typF ts n) deep (dpP ts deep p)).1]⟩,(baseF ts (typF ts n) deep (dpP ts deep p)).2.next)
   else baseF ts (typF ts n) deep (dpP ts deep p)):=rfl
  repeat (first|refine sc rfl ?_|refine so rfl ?_)
  refine C_ifJ ⟨[(0,PT b 0),(1,I64 deep),(4,.bp 4 0)],[.box 4 58 [I64 0,.s [],.v (.slice none 0 0)],.abs (psA m b ts (dpP ts deep p))]⟩ rfl (fun m1=>?_) (fun m1=>?_) (fun st h=>C_le _ h ?_)
  ·simp only [pL] at m1
   repeat (first|refine sc rfl ?_|refine so rfl ?_)
   refine O_cA [1] (fail_A m b ts hT p hp 10) ?_
   rintro r cs' ⟨rfl,rfl⟩
   repeat refine so rfl ?_
   have e1:dpP ts deep p=failF ts 10 p:=by unfold dpP;rw [if_pos m1]
   rw [e1]
   exact Le.pick [1,0] ⟨rfl,rfl,rfl,trivial⟩ rfl
  ·simp only [pL] at m1
   repeat refine sc rfl ?_
   have e1:dpP ts deep p=p:=by unfold dpP;rw [if_neg m1]
   rw [e1]
   exact Le.pick [0,0] ⟨rfl,rfl,rfl,trivial⟩ rfl
  generalize dpP ts deep p=q at *
  repeat (first|refine sc rfl ?_|refine so rfl ?_)
  refine O_cA [1] (well_A m b ts q) ?_
  rintro r cs' ⟨rfl,rfl⟩
  repeat refine so rfl ?_
  refine C_if rfl (fun m2=>?_) (fun m2=>?_)<;>simp only [pL] at m2
  ·rw [if_pos m2] at hF
   rw [hF]
   repeat (first|refine O_le _ (Le.agg 13 [I64 0,.s [],.sl ([]:List Ty).length 3 (Ty.rows ([]:List Ty))] rfl (.cons .refl (.cons .refl (.cons .nil .nil)))) ?_|refine sc rfl ?_|refine so rfl ?_|refine sb rfl ?_)
   exact ⟨_,[_],_,rfl,pickA_perm (is:=[1]) (As:=[_]) rfl,rfl,rfl,rfl⟩
  rw [if_neg (fun h=>h m2)] at hF
  have hd8':=hd8 m2
  repeat (first|refine sc rfl ?_|refine so rfl ?_)
  refine O_cA [0] (base_A m b ts hT (typF ts n) deep ⟨hd.1,hd8'⟩ (fun q hq=>typ_lt hT n (deep+1) q hq) (fun q hq=>typ_A n (deep+1) (by omega) (by omega) q hq) q hdl) ?_
  rintro r cs' ⟨rfl,rfl⟩
  generalize baseF ts (typF ts n) deep q=x at *
  obtain ⟨x1,p3⟩:=x
  simp only [] at hbl hF ⊢
  repeat (first|refine sc rfl ?_|refine so rfl ?_)
  refine O_cA [1] (may_A m b ts hT p3 hbl [63]) ?_
  rintro r cs' ⟨rfl,rfl⟩
  unfold mayP
  repeat refine so rfl ?_
  cases h3:mayF ts [63] p3 with
  | true =>
   rw [h3,if_pos rfl] at hF
   rw [hF]
   refine C_true rfl rfl ?_
   simp only [if_true]
   repeat (first|refine O_le _ (Le.lit 20 Ty.c ([x1]:List Ty) rfl rfl rfl (by intro j hj;match j,hj with|0,_=>rfl)) ?_|refine O_le _ (Le.agg 21 [I64 9,.s [],.sl ([x1]:List Ty).length 3 (Ty.rows ([x1]:List Ty))] rfl (.cons .refl (.cons .refl (.cons (.row (fun i hi=>(Ty.rows_eq _ i hi).symm)) .nil)))) ?_|refine sc rfl ?_|refine so rfl ?_|refine sb rfl ?_)
   exact ⟨_,[_],_,rfl,pickA_perm (is:=[1]) (As:=[_]) rfl,rfl,rfl,rfl⟩
  | false =>
   rw [h3,if_neg (by decide)] at hF
   rw [hF]
   refine C_false rfl rfl ?_
   simp only [Bool.false_eq_true,if_false]
   repeat (first|refine sc rfl ?_|refine so rfl ?_)
   exact ⟨_,[_],_,rfl,pickA_perm (is:=[1]) (As:=[_]) rfl,rfl,rfl,rfl⟩
end
end Go.Proofs

namespace Go.Sy
open Go.RowKit

def setM (L:Nat→Bool) (i:Nat):Nat→Bool:=fun k=>if k=i then true else L k

section
variable {P:Program} {T:Tab} {X:Ctx P T} {n:Nat} {e:Env} {st:St} {a:Act} {w:World} {ops:Array Oper} {K:St→Prop}

theorem any_of_M {p:Pl} {base:List (Nat×AV)} {C:(Nat→Bool)→List Ch} {D:Done} {Q:QX X} (hE:∀ e∈p.E,e<ops.size) (hC:∀ L L':Nat→Bool,(∀ e∈p.E,L e=L' e)→C L=C L') (hA:p.ancB ops=true) (hbse:p.baseB base=true) (hD:D.length=ops.size)
  (hstep:∀ i o,ops[i]?=some o→∃ x,D[i]?=some (o.dst,x)∧p.creB i x=true∧∀ L:Nat→Bool,(∀ a∈p.anc i,L a=true)→(∀ q,i∈p.anc q→L q=false)→L i=false→StepX X n ops p (availX p i (D.take i) o.after.toList base) (C L) (if i∈p.E then C (setM L i) else C L) i o x)
  (hedge:∀ i o,ops[i]?=some o→∀ e∈o.after,Region.binds .any e=true→e.on<i)
  (hdist:∀ (i j:Nat) o o' d,ops[i]?=some o→ops[j]?=some o'→o.dst=some d→o'.dst=some d→i=j)
  (hbase:∀ (i:Nat) o d,ops[i]?=some o→o.dst=some d→get base d=none)
  (hfin:∀ e a w,Rel X n e ⟨finS base (killD p D),C (fun _=>true)⟩ a w→Q .normal a w) :
  ∀ (fuel:Nat) (listed:Array Bool) (a:Act) (w:World) (e:Env) (S:List (Nat×AV)),listed.size=ops.size→listed.toList.count false=fuel→ClosedL ops listed→Rel X n e ⟨S,C (fun e=>listed.getD e false)⟩ a w →
   (∀ k y,get base k=some y→get S k=some y) →
   (∀ (i:Nat) d x,listed.getD i false=true→D[i]?=some (some d,x)→(∀ q∈p.ki,listed.getD q.1 false=true→x.noO q.2=true)→get S d=some x) →
   (∀ k y,get S k=some y→∀ q∈p.cre,listed.getD q.1 false=false→y.no q.2=true) →
   wpAny P .any ops Q fuel listed a w:=by
 have bspec:∀ {l:List (Nat×AV)},p.baseB l=true→∀ k y,get l k=some y→(∀ q∈p.cre,y.no q.2=true)∧∀ q∈p.ki,y.noO q.2=true:=by
  intro l
  induction l with
  | nil=>intro _ k y h;simp [get] at h
  | cons z l ih =>
   obtain ⟨j,v⟩:=z
   intro h k y hy
   simp only [Pl.baseB,Bool.and_eq_true,List.all_eq_true] at h
   rw [get_cons] at hy
   by_cases hj:j=k
   ·rw [if_pos hj] at hy;cases hy;exact ⟨h.1.1,h.1.2⟩
   ·rw [if_neg hj] at hy;exact ih h.2 k y hy
 have ancL:∀ {listed:Array Bool},ClosedL ops listed→∀ i,i<ops.size→(∀ j∈predsB ops i,listed.getD j false=true)→∀ a∈p.anc i,listed.getD a false=true:=by
  intro listed hc i
  induction i using Nat.strongRecOn with
  | ind i ih =>
   intro hi hp a ha
   have h1:=List.all_eq_true.1 (List.all_eq_true.1 hA i (by simpa using hi)) a ha
   simp only [Bool.or_eq_true,List.contains_iff_mem,List.any_eq_true] at h1
   rcases h1 with h1|⟨q,hq,h1⟩
   ·exact hp a h1
   ·obtain ⟨o,ho,ed,he,hb,rfl⟩:=mem_preds hq
    have hlt:=hedge i o ho ed he hb
    refine ih ed.on hlt (by omega) (fun j hj=>?_) a h1
    obtain ⟨o',ho',ed',he',hb',rfl⟩:=mem_preds hj
    exact hc ed.on o' (hp _ hq) ho' ed' he' hb'
 have ancLd:∀ {listed:Array Bool},listed.size=ops.size→ClosedL ops listed→∀ i,listed.getD i false=true→∀ a∈p.anc i,listed.getD a false=true:=by
  intro listed hsz hc i hi
  have hlt:i<ops.size:=by
   rcases Nat.lt_or_ge i ops.size with h|h
   ·exact h
   ·rw [← hsz] at h;simp [Nat.not_lt.2 h] at hi
  refine ancL hc i hlt (fun j hj=>?_)
  obtain ⟨o,ho,ed,he,hb,rfl⟩:=mem_preds hj
  exact hc i o hi ho ed he hb
 have progress:∀ (listed:Array Bool),listed.size=ops.size→Region.ready .any ops listed=[]→∀ i,i<ops.size→listed.getD i false=true:=by
  intro listed hsz hr i
  induction i using Nat.strongRecOn with
  | ind i ih =>
   intro hi
   cases hl:listed.getD i true with
   | true =>
    have:i<listed.size:=by omega
    simp [this] at hl ⊢
    exact hl
   | false =>
    exfalso
    have hmem:i∈Region.ready .any ops listed:=by
     rw [mem_ready]
     refine ⟨hl,ops[i],by simp [hi],fun e he hb=>ih e.on (hedge i ops[i] (by simp [hi]) e he hb) ?_⟩
     have:=hedge i ops[i] (by simp [hi]) e he hb
     omega
    rw [hr] at hmem
    cases hmem
 have final:∀ (listed:Array Bool) a w e S,listed.size=ops.size→Region.ready .any ops listed=[]→Rel X n e ⟨S,C (fun e=>listed.getD e false)⟩ a w →
   (∀ k y,get base k=some y→get S k=some y)→(∀ (i:Nat) d x,listed.getD i false=true→D[i]?=some (some d,x)→(∀ q∈p.ki,listed.getD q.1 false=true→x.noO q.2=true)→get S d=some x)→Q .normal a w:=by
  intro listed a w e S hsz hr r hb hs
  rw [hC (fun e=>listed.getD e false) (fun _=>true) (fun e he=>progress listed hsz hr e (hE e he))] at r
  refine hfin e a w (r.less (fun k y hk=>?_) (fun h=>h))
  rcases finS_get hk with ⟨i,hi⟩|h
  ·obtain ⟨hi,he⟩:=killD_get hi
   have hlt:i<D.length:=by
    rcases Nat.lt_or_ge i D.length with h|h
    ·exact h
    ·rw [List.getElem?_eq_none h] at hi;cases hi
   exact hs i k y (progress listed hsz hr i (by omega)) hi (fun q hq _=>List.all_eq_true.1 he q hq)
  ·exact hb k y h
 intro fuel
 induction fuel with
 | zero =>
  intro listed a w e S hsz hc hcl r hb hs hcr
  have hall:∀ i,i<listed.size→listed.getD i true=true:=by
   intro i hi
   cases hl:listed.getD i true with
   | true=>rfl
   | false =>
    exfalso
    have:false∈listed.toList:=by
     simp [hi] at hl
     exact List.mem_iff_getElem.2 ⟨i,by simpa using hi,by simpa using hl⟩
    have:=List.count_pos_iff.2 this
    omega
  have hr:Region.ready .any ops listed=[]:=by
   cases hrr:Region.ready .any ops listed with
   | nil=>rfl
   | cons j js =>
    exfalso
    have hm:j∈Region.ready .any ops listed:=by rw [hrr];simp
    rw [mem_ready] at hm
    obtain ⟨h0,o,ho,_⟩:=hm
    have hlt:j<ops.size:=(Array.getElem?_eq_some_iff.1 ho).1
    rw [hall j (by omega)] at h0
    cases h0
  exact ⟨hr,final listed a w e S hsz hr r hb hs⟩
 | succ fuel ih =>
  intro listed a w e S hsz hc hcl r hb hs hcr
  refine ⟨fun hr=>final listed a w e S hsz hr r hb hs,fun i hi=>?_⟩
  rw [mem_ready] at hi
  obtain ⟨h0,o,ho,hpre⟩:=hi
  have hlt:i<ops.size:=(Array.getElem?_eq_some_iff.1 ho).1
  have hif:listed.getD i false=false:=by
   have:i<listed.size:=by omega
   simp [this] at h0 ⊢
   exact h0
  have hlf:listed.toList[i]?=some false:=by
   have:i<listed.size:=by omega
   simp [this] at h0 ⊢
   exact h0
  have hpl:∀ j∈predsB ops i,listed.getD j false=true:=by
   intro j hj
   obtain ⟨o',ho',ed,he,hb',rfl⟩:=mem_preds hj
   rw [ho] at ho'
   cases ho'
   exact hpre ed he hb'
  have hanc:=ancL hcl i hlt hpl
  obtain ⟨x,hx,hcre,hst⟩:=hstep i o ho
  unfold wpOp
  simp only [ho]
  have hhi:∀ q,i∈p.anc q→listed.getD q false=false:=fun q hq=>by
   cases hb:listed.getD q false with
   | false=>rfl
   | true=>rw [ancLd hsz hcl q hb i hq] at hif;cases hif
  have hav:∀ k y,get (availX p i (D.take i) o.after.toList base) k=some y→get S k=some y:=by
   intro k y hk
   rcases availX_get hk with ⟨ed,h1,h2,h3,h5⟩|h
   ·have h4:D[ed.on]?=some (some k,y):=by
     rw [List.getElem?_take] at h3
     split at h3
     ·exact h3
     ·cases h3
    refine hs ed.on k y (hpre ed (by simpa using h1) h2) h4 (fun q hq hql=>?_)
    have h6:=List.all_eq_true.1 h5 q hq
    simp only [Bool.or_eq_true,List.contains_iff_mem] at h6
    rcases h6 with (h6|h6)|h6
    ·exact h6
    ·have:=Nat.eq_of_beq_eq_true h6
     rw [← this,hif] at hql;cases hql
    ·rw [ancLd hsz hcl q.1 hql i h6] at hif;cases hif
   ·exact hb k y h
  have hset:∀ j,j≠i→(listed.setIfInBounds i true).getD j false=listed.getD j false:=fun j hj=>getD_set_ne false (Ne.symm hj)
  have hseti:(listed.setIfInBounds i true).getD i false=true:=by
   have:i<listed.size:=by omega
   simp [this]
  have hphn:(if i∈p.E then C (setM (fun e=>listed.getD e false) i) else C (fun e=>listed.getD e false))=C (fun e=>(listed.setIfInBounds i true).getD e false):=by
   have h1:C (setM (fun e=>listed.getD e false) i)=C (fun e=>(listed.setIfInBounds i true).getD e false):=by
    congr 1;funext k;unfold setM
    by_cases hk:k=i
    ·rw [if_pos hk,hk,hseti]
    ·rw [if_neg hk,hset k hk]
   by_cases hi:i∈p.E
   ·rw [if_pos hi,h1]
   ·rw [if_neg hi]
    exact hC _ _ (fun e he=>(hset e (fun h=>hi (h▸he))).symm)
  refine hst (fun e=>listed.getD e false) hanc hhi hif e a w S _ Q r hav (fun k y hy q hq hqi=>hcr k y hy q hq (by rw [hqi];exact hif)) (fun e' a' w' S' r' hu=>?_)
  refine ih (listed.setIfInBounds i true) a' w' e' S' (by simpa using hsz) ?_ ?_ (by rw [← hphn];exact r') (fun k y hk=>?_) (fun j d y hj hy hq=>?_) (fun k y hy q hq hql=>?_)
  ·rw [Array.toList_setIfInBounds]
   have hlt':i<listed.toList.length:=by simpa using (by omega:i<listed.size)
   have hg:listed.toList[i]=false:=by
    have:=List.getElem?_eq_getElem hlt'
    rw [hlf] at this
    simpa using this.symm
   rw [List.count_set hlt',hg,hc]
   simp
  ·intro j o' hj ho' ed he hb'
   by_cases hji:j=i
   ·subst hji
    rw [ho] at ho';cases ho'
    have:=hpre ed he hb'
    by_cases h:ed.on=j
    ·rw [h];exact hseti
    ·rw [hset _ h];exact this
   ·rw [hset j hji] at hj
    have:=hcl j o' hj ho' ed he hb'
    by_cases h:ed.on=i
    ·rw [h];exact hseti
    ·rw [hset _ h];exact this
  ·refine hu.2.1 k y (fun h=>?_) (hb k y hk) (fun q hq _=>(bspec hbse k y hk).2 q hq)
   rw [hbase i o k ho h] at hk;cases hk
  ·by_cases hji:j=i
   ·subst hji
    rw [hx] at hy
    simp only [Option.some.injEq,Prod.mk.injEq] at hy
    rw [← hy.2]
    exact hu.1 d hy.1
   ·rw [hset j hji] at hj
    have hold:=hs j d y hj hy (fun q hqk hql=>hq q hqk (by
     by_cases h:q.1=i
     ·rw [h];exact hseti
     ·rw [hset _ h];exact hql))
    refine hu.2.1 d y (fun h=>?_) hold (fun q hqk hqi=>hq q hqk (by rw [hqi];exact hseti))
    have hjl:j<ops.size:=by
     rw [← hD]
     rcases Nat.lt_or_ge j D.length with h|h
     ·exact h
     ·rw [List.getElem?_eq_none h] at hy;cases hy
    obtain ⟨x',hx',_⟩:=hstep j ops[j] (by simp [hjl])
    rw [hx'] at hy
    simp only [Option.some.injEq,Prod.mk.injEq] at hy
    exact hji (hdist j i ops[j] o d (by simp [hjl]) ho hy.1 h)
  ·have hqi:q.1≠i:=fun h=>by rw [h,hseti] at hql;cases hql
   rw [hset _ hqi] at hql
   rcases hu.2.2 k y hy with ⟨_,rfl⟩|h|rfl
   ·have h6:=List.all_eq_true.1 hcre q hq
    simp only [Bool.or_eq_true,List.contains_iff_mem] at h6
    rcases h6 with (h6|h6)|h6
    ·exact absurd (Nat.eq_of_beq_eq_true h6) hqi
    ·rw [hanc q.1 h6] at hql;cases hql
    ·exact h6
   ·exact hcr k y h q hq hql
   ·rfl

def SymM {P:Program} {T:Tab} (X:Ctx P T) (n:Nat) (ops:Array Oper) (p:Pl) (base:List (Nat×AV)) (C:(Nat→Bool)→List Ch) (K:St→Prop):List Oper→Done→Prop
 | [],done=>K ⟨finS base (killD p done),C (fun _=>true)⟩
 | o::rest,done=>∃ x,(p.creB done.length x=true∧∀ L:Nat→Bool,(∀ a∈p.anc done.length,L a=true)→(∀ q,done.length∈p.anc q→L q=false)→L done.length=false→StepX X n ops p (availX p done.length done o.after.toList base) (C L) (if done.length∈p.E then C (setM L done.length) else C L) done.length o x) ∧
   SymM X n ops p base C K rest (done++[(o.dst,x)])

theorem SymM.plan {p:Pl} {base:List (Nat×AV)} {C:(Nat→Bool)→List Ch}:∀ {l:List Oper} {done:Done},SymM X n ops p base C K l done →
  ∃ D:Done,done <+: D∧D.length=done.length+l.length∧K ⟨finS base (killD p D),C (fun _=>true)⟩ ∧
   ∀ i o,l[i]?=some o→∃ x,D[done.length+i]?=some (o.dst,x)∧p.creB (done.length+i) x=true ∧
    ∀ L:Nat→Bool,(∀ a∈p.anc (done.length+i),L a=true)→(∀ q,done.length+i∈p.anc q→L q=false)→L (done.length+i)=false→StepX X n ops p (availX p (done.length+i) (D.take (done.length+i)) o.after.toList base) (C L) (if done.length+i∈p.E then C (setM L (done.length+i)) else C L) (done.length+i) o x
 | [],done,h=>⟨done,List.prefix_refl _,by simp,h,fun i o hi=>by simp at hi⟩
 | o::rest,done,h=>by
  obtain ⟨x,h1,h2⟩:=h
  obtain ⟨D,hp,hl,hK,hs⟩:=SymM.plan h2
  have hp':done <+: D:=(List.prefix_append done _).trans hp
  refine ⟨D,hp',by simp at hl ⊢;omega,hK,fun i o' hi=>?_⟩
  cases i with
  | zero =>
   simp only [List.getElem?_cons_zero,Option.some.injEq] at hi
   subst hi
   refine ⟨x,?_,?_⟩
   ·obtain ⟨t,rfl⟩:=hp
    simp
   ·obtain ⟨t,rfl⟩:=hp'
    simpa using h1
  | succ i =>
   obtain ⟨y,g1,g2⟩:=hs i o' (by simpa using hi)
   refine ⟨y,?_,?_⟩
   ·simpa [Nat.add_assoc,Nat.add_comm 1 i] using g1
   ·simpa [Nat.add_assoc,Nat.add_comm 1 i] using g2

theorem C_drawM (p:Pl) {id:Nat} {Q:Exit→St→Prop} {s base:List (Nat×AV)} {c:List Ch} (C:(Nat→Bool)→List Ch) (hb:eraseD ops.toList s=some base) (hchk:p.fine ops base=true) (hC:∀ L L':Nat→Bool,(∀ e∈p.E,L e=L' e)→C L=C L') (h0:C (fun _=>false)=c)
  (h:SymM X n ops p base C (fun s=>Q .normal s) ops.toList []):SymC X n (.region id ops true) ⟨s,c⟩ Q:=by
 intro e a w r
 have hbs:∀ k y,get base k=some y→get s k=some y:=fun k y hk=>eraseD_get hb hk
 simp only [Pl.fine,Bool.and_eq_true] at hchk
 obtain ⟨⟨⟨g1,g2⟩,g3⟩,g4⟩:=hchk
 obtain ⟨D,_,hl,hK,hs⟩:=h.plan
 obtain ⟨c1,c2⟩:=chkD_spec g4
 have hbel:Below w.heap.size w { w with drawn:=w.drawn+1 }:=⟨rfl,rfl,rfl,Nat.le_refl _,fun _ _=>rfl⟩
 have hEs:∀ e∈p.E,e<ops.size:=fun e he=>by
  have:=List.all_eq_true.1 g3 e he
  simp [Nat.blt] at this;omega
 refine wp_region_any X.wide ?_
 have hrep:∀ i,(Array.replicate ops.size false).getD i false=false:=fun i=>by
  rcases Nat.lt_or_ge i ops.size with h|h
  ·simp [h]
  ·simp [Nat.not_lt.2 h]
 refine any_of_M (X:=X) (Q:=concX X n Q) (n:=n) (p:=p) (base:=base) (C:=C) (D:=D) hEs hC g1 g2 (by simpa using hl) (fun i o ho=>?_) (fun i o ho=>?_) (fun i j o o' d hi hj=>c2 i j o o' d (by simpa using hi) (by simpa using hj)) (fun i o d ho hd=>((c1 i o (by simpa using ho)).2 d hd).1)
  (fun e a w r=>⟨e,_,r,hK⟩) _ _ a _ e base (by simp) (by simp) (fun j o hj=>by rw [hrep] at hj;cases hj) ?_ (fun k y hk=>hk) (fun i d x hi=>by rw [hrep] at hi;cases hi) ?_
 ·have:=hs i o (by simpa using ho)
  simpa using this
 ·simpa using (c1 i o (by simpa using ho)).1
 ·have h1:C (fun e=>(Array.replicate ops.size false).getD e false)=C (fun _=>false):=hC _ _ (fun e _=>hrep e)
  rw [h1,h0]
  exact (r.below hbel).less hbs (fun h=>h)
 ·intro k y hy q hq _
  have:∀ {l:List (Nat×AV)},p.baseB l=true→get l k=some y→y.no q.2=true:=by
   intro l
   induction l with
   | nil=>intro _ h;simp [get] at h
   | cons z l ih =>
    obtain ⟨j,v⟩:=z
    intro h hy
    simp only [Pl.baseB,Bool.and_eq_true,List.all_eq_true] at h
    rw [get_cons] at hy
    by_cases hj:j=k
    ·rw [if_pos hj] at hy;cases hy;exact h.1.1 q hq
    ·rw [if_neg hj] at hy;exact ih h.2 hy
  exact this g2 hy

def stepMK {P:Program} {T:Tab} (X:Ctx P T) (n:Nat) (ops:Array Oper) (p:Pl) (base:List (Nat×AV)) (C:(Nat→Bool)→List Ch) (K:St→Prop):List Oper→Done→Option Prop
 | [],done=>normG (finS base (killD p done)) fun s=>some (K ⟨s,C (fun _=>true)⟩)
 | o::rest,done=>normG (availX p done.length done o.after.toList base) fun Si=>match guardA ops ⟨Si,[]⟩ o,dstOK n o.dst with
  | some true,true=>(match stillX T ⟨Si,[]⟩ o.op with
   | some (vc,x)=>normA x fun x=>(match p.creB done.length x,!(p.E.contains done.length) with
    | true,true=>normG (done++[(o.dst,x)]) fun done=>some (vc∧SymM X n ops p base C K rest done)
    | _,_=>none)
   | none=>none)
  | some false,true=>(match p.creB done.length (.tup []),!(p.E.contains done.length) with
    | true,true=>normG (done++[(o.dst,.tup [])]) fun done=>some (SymM X n ops p base C K rest done)
    | _,_=>none)
  | _,_=>none

theorem sm {p:Pl} {base:List (Nat×AV)} {C:(Nat→Bool)→List Ch} {l:List Oper} {done:Done} {q:Prop} (h:stepMK X n ops p base C K l done=some q) (hq:q):SymM X n ops p base C K l done:=by
 cases l with
 | nil =>
  simp only [stepMK,normG_eq,Option.some.injEq] at h
  subst h
  exact hq
 | cons o rest =>
  simp only [stepMK,normG_eq,normA_eq] at h
  split at h
  ·rename_i hg hd
   split at h
   ·rename_i vc x hs
    split at h
    ·rename_i hc hE
     simp only [Option.some.injEq] at h
     subst h
     refine ⟨x,⟨hc,fun L _ _ _=>?_⟩,hq.2⟩
     rw [if_neg (not_mem_of_contains hE)]
     exact StepX.any hg hd hs hq.1
    ·cases h
   ·cases h
  ·rename_i hg hd
   split at h
   ·rename_i hc hE
    simp only [Option.some.injEq] at h
    subst h
    refine ⟨.tup [],⟨hc,fun L _ _ _=>?_⟩,hq⟩
    rw [if_neg (not_mem_of_contains hE)]
    exact X_none (by rw [guardA_any (c':=[])];exact hg) hd
   ·cases h
  ·cases h

theorem SM {p:Pl} {base:List (Nat×AV)} {C:(Nat→Bool)→List Ch} {o:Oper} {rest:List Oper} {done:Done} (x:AV) (hc:p.creB done.length x=true)
  (h:∀ L:Nat→Bool,(∀ a∈p.anc done.length,L a=true)→(∀ q,done.length∈p.anc q→L q=false)→L done.length=false→StepX X n ops p (availX p done.length done o.after.toList base) (C L) (if done.length∈p.E then C (setM L done.length) else C L) done.length o x)
  (k:normG (done++[(o.dst,x)]) fun done=>SymM X n ops p base C K rest done):SymM X n ops p base C K (o::rest) done:=by
 rw [normG_eq] at k
 exact ⟨x,⟨hc,h⟩,k⟩
end
end Go.Sy

namespace Go.Sy
open Go.RowKit

theorem freshS_filter (d:Nat):∀ S:List (Nat×AV),freshS d (S.filter fun q=>q.2.no d)=true
 | []=>rfl
 | (k,y)::S=>by
  rw [List.filter_cons]
  split
  ·rename_i h
   simp only [freshS,Bool.and_eq_true]
   first|exact ⟨h,freshS_filter d S⟩|(refine ⟨?_,freshS_filter d S⟩;simpa using h)
  ·exact freshS_filter d S
theorem get_filter {d:Nat}:∀ {S:List (Nat×AV)} {k:Nat} {y:AV},get S k=some y→y.no d=true→get (S.filter fun q=>q.2.no d) k=some y
 | [],k,y,h,_=>by simp [get] at h
 | (j,z)::S,k,y,h,hy=>by
  rw [get_cons] at h
  by_cases hj:j=k
  ·rw [if_pos hj] at h;cases h
   rw [List.filter_cons,if_pos (by simpa using hy),get_cons,if_pos hj]
  ·rw [if_neg hj] at h
   rw [List.filter_cons]
   split
   ·rw [get_cons,if_neg hj];exact get_filter h hy
   ·exact get_filter h hy
theorem get_unfilter {d:Nat}:∀ {S:List (Nat×AV)} (hS:∀ k y,get S k=some y→y.no d=true) {k:Nat} {y:AV},get (S.filter fun q=>q.2.no d) k=some y→get S k=some y:=by
 intro S hS k y h
 cases hg:get S k with
 | some z =>
  have:=get_filter hg (hS k z hg)
  rw [h] at this
  exact this.symm
 | none =>
  exfalso
  have:∀ S:List (Nat×AV),get S k=none→get (S.filter fun q=>q.2.no d) k=none:=by
   intro S
   induction S with
   | nil=>intro _;rfl
   | cons q S ih =>
    obtain ⟨j,z⟩:=q
    intro h
    rw [get_cons] at h
    by_cases hj:j=k
    ·rw [if_pos hj] at h;cases h
    ·rw [if_neg hj] at h
     rw [List.filter_cons]
     split
     ·rw [get_cons,if_neg hj];exact ih h
     ·exact ih h
  rw [this S hg] at h;cases h

section
variable {P:Program} {T:Tab} {X:Ctx P T} {n:Nat} {e:Env} {st:St} {a:Act} {w:World} {ops:Array Oper} {K:St→Prop}

theorem X_alloc {p:Pl} {t:TypeId} {ti:TI} {d:Nat} {ty:TypeId} {pos:String} {aft:Array Edge} {gd:Option (Nat×Bool)} {j:Nat} {Si:List (Nat×AV)} {c:List Ch} {cells:List AV}
  (hT:T t=some ti) (hcells:cells=ti.zero.map constA) (hg:guardA ops ⟨Si,c⟩ ⟨some d,.alloc t,ty,pos,aft,gd⟩=some true) (hd:Nat.blt d n=true) (hcre:(j,d)∈p.cre) (hc:freshC d c=true) (hno:AV.no.noL d cells=true) (hki:p.ki=[]) :
  StepX X n ops p Si c (.box d t cells::c) j ⟨some d,.alloc t,ty,pos,aft,gd⟩ (.bp d 0):=by
 subst hcells
 intro e a w S K Q r hS hcr hk
 have r0:Rel X n e ⟨Si,c⟩ a w:=r.less hS (fun h=>h)
 rw [if_pos (guardA_sound r0 hg)]
 have hfree:∀ k y,get S k=some y→y.no d=true:=fun k y h=>hcr k y h (j,d) hcre rfl
 have r1:Rel X n e ⟨S.filter fun q=>q.2.no d,c⟩ a w:=r.less (fun k y h=>get_unfilter hfree h) (fun h=>h)
 obtain ⟨pi,z,g1,g2,g3,g4,g5,g6,g7⟩:=(X.ok _ _ hT).info
 have r2:=r1.alloc (t:=t) (arr:=z.cells) hd (freshS_filter d S) hc (by rw [g5];exact zero_sound e g6) hno
 have hrun:(execOp a.eval ⟨some d,.alloc t,ty,pos,aft,gd⟩).run P w=.ok (.value (.pointer (some ⟨w.heap.size,0,none⟩))) (w.alloc (.cells z.cells t)):=by
  simp [execOp,Instr.alloc,zeroValue,typeInfo,g1,g4,newVar,newRow]
 refine .inl ?_
 unfold Oper.wp
 rw [hrun]
 refine hk _ _ _ _ r2 ⟨?_,?_,?_⟩
 ·rintro d' h'
  cases h'
  rw [get_cons,if_pos rfl]
 ·intro k y hne hy _
  rw [get_cons,if_neg (fun h=>hne (by rw [h]))]
  exact get_filter hy (hfree k y hy)
 ·intro k y hy
  rw [get_cons] at hy
  by_cases h:d=k
  ·rw [if_pos h] at hy;cases hy;exact .inl ⟨by rw [h],rfl⟩
  ·rw [if_neg h] at hy;exact .inr (.inl (get_unfilter hfree hy))

theorem X_storeK {p:Pl} {t tt:TypeId} {i:TI} {ad xo:Operand} {b o kk:Nat} {av:AV} {cells new:List AV} {ty:TypeId} {pos:String} {aft:Array Edge} {gd:Option (Nat×Bool)} {j:Nat} {Si:List (Nat×AV)} {c rest:List Ch}
  (hT:T t=some i) (hg:guardA ops ⟨Si,c⟩ ⟨none,.store t ad xo,ty,pos,aft,gd⟩=some true) (had:opd Si ad=some (.bp b o)) (hx:opd Si xo=some av) (hk:takeCh b c=some (.box kk tt cells,rest)) (hb:boxable av=true) (hl:Nat.beq (cellsA av).length i.size=true) (ho:Nat.ble (o+i.size) cells.length=true)
  (hn:new=cells.take o++cellsA av++cells.drop (o+(cellsA av).length)) :
  StepX X n ops p Si c (.box kk tt new::rest) j ⟨none,.store t ad xo,ty,pos,aft,gd⟩ .bad :=
 StepX.skip hg rfl (fun e a w S r r'=>by
  subst hn
  have hkk:kk=b:=kid_of_take hk
  subst hkk
  have k2:=Nat.eq_of_beq_eq_true hl
  have k3:=Nat.le_of_ble_eq_true ho
  have hv:=cellsA_sound (opd_sound r' hx) hb
  have hbp:=opd_sound r' had
  simp only [Rep] at hbp
  obtain ⟨w',g1,g2⟩:=r.write (st:=⟨S,c⟩) hk hv (o:=o) (by omega)
  have hsz:(a.eval xo).cells.size=i.size:=by have:=RepL.len hv;simp at this;omega
  have hrun:(execOp a.eval ⟨none,.store t ad xo,ty,pos,aft,gd⟩).run P w=.ok .skip w':=by
   simp only [execOp,Instr.storeAt,hbp,Instr.sureAddr,Sem.run_bind,Sem.run_pure,Result.andThen_ok,storeVar,X.ok.size hT,hsz]
   simp [g1]
  exact ⟨w',e,hrun,g2⟩)
end
end Go.Sy

namespace Go.Sy
open Go.RowKit

section
variable {P:Program} {T:Tab} {X:Ctx P T} {n:Nat} {e:Env} {st:St} {a:Act} {w:World} {ops:Array Oper} {K:St→Prop}

theorem StepX.perm {p:Pl} {Si:List (Nat×AV)} {c c2 c3:List Ch} {i:Nat} {o:Oper} {x:AV} (h:StepX X n ops p Si c c2 i o x) (hp:c2.Perm c3):StepX X n ops p Si c c3 i o x :=
 fun e a w S K Q r hS hcr hk=>h e a w S K Q r hS hcr (fun e' a' w' S' r' hu=>hk e' a' w' S' (r'.less (fun k y hh=>hh) (fun hh=>hh.perm hp)) hu)

theorem any_of_MT {p:Pl} {base:List (Nat×AV)} {C:(Nat→Bool)→List Ch} {D:Done} {Q:QX X} {m f:Nat} (ht:tailB ops f m=true) (hE:∀ e∈p.E,e<m) (hC:∀ L L':Nat→Bool,(∀ e∈p.E,L e=L' e)→C L=C L') (hA:p.ancB ops=true) (hbse:p.baseB base=true) (hD:D.length=m)
  (hstep:∀ i o,i<m→ops[i]?=some o→∃ x,D[i]?=some (o.dst,x)∧p.creB i x=true∧∀ L:Nat→Bool,(∀ a∈p.anc i,L a=true)→(∀ q,i∈p.anc q→L q=false)→L i=false→StepX X n ops p (availX p i (D.take i) o.after.toList base) (C L) (if i∈p.E then C (setM L i) else C L) i o x)
  (hedge:∀ i o,ops[i]?=some o→∀ e∈o.after,Region.binds .any e=true→e.on<i)
  (hdist:∀ (i j:Nat) o o' d,i<m→j<m→ops[i]?=some o→ops[j]?=some o'→o.dst=some d→o'.dst=some d→i=j)
  (hbase:∀ (i:Nat) o d,i<m→ops[i]?=some o→o.dst=some d→get base d=none)
  (hfin:∀ e a w,Rel X n e ⟨finS base (killD p D),C (fun _=>true)⟩ a w→wpList P ops Q (ops.toList.drop m) a w) :
  ∀ (fuel:Nat) (listed:Array Bool) (a:Act) (w:World) (e:Env) (S:List (Nat×AV)),listed.size=ops.size→listed.toList.count false=fuel→ClosedL ops listed→Rel X n e ⟨S,C (fun e=>listed.getD e false)⟩ a w→(∀ j,m≤j→listed.getD j false=false) →
   (∀ k y,get base k=some y→get S k=some y) →
   (∀ (i:Nat) d x,listed.getD i false=true→D[i]?=some (some d,x)→(∀ q∈p.ki,listed.getD q.1 false=true→x.noO q.2=true)→get S d=some x) →
   (∀ k y,get S k=some y→∀ q∈p.cre,listed.getD q.1 false=false→y.no q.2=true) →
   wpAny P .any ops Q fuel listed a w:=by
 have ht':=ht
 unfold tailB at ht'
 simp only [Bool.and_eq_true,List.all_eq_true,List.mem_range,Array.length_toList] at ht'
 obtain ⟨⟨hm,hcov⟩,hch⟩:=ht'
 have hm':m<ops.size:=by have h:=hm;simp [Nat.blt] at h;omega
 have cnt:∀ (l:List Bool) (k:Nat),k≤l.length→(∀ j,j<l.length→(l[j]?=some true↔j<k))→l.count false+k=l.length:=by
  intro l
  induction l with
  | nil=>intro k hk _;simp at hk;simp [hk]
  | cons b l ih =>
   intro k hk h
   cases k with
   | zero =>
    have hb:b=false:=by
     have:=h 0 (by simp)
     cases b
     ·rfl
     ·simp at this
    subst hb
    have:=ih 0 (Nat.zero_le _) (fun j hj=>by have:=h (j+1) (by simpa using hj);simpa using this)
    simp at this ⊢;omega
   | succ k =>
    have hb:b=true:=by
     have:=h 0 (by simp)
     simpa using this
    subst hb
    have:=ih k (by simpa using hk) (fun j hj=>by have:=h (j+1) (by simpa using hj);simpa using this)
    simp at this ⊢;omega
 have bspec:∀ {l:List (Nat×AV)},p.baseB l=true→∀ k y,get l k=some y→(∀ q∈p.cre,y.no q.2=true)∧∀ q∈p.ki,y.noO q.2=true:=by
  intro l
  induction l with
  | nil=>intro _ k y h;simp [get] at h
  | cons z l ih =>
   obtain ⟨j,v⟩:=z
   intro h k y hy
   simp only [Pl.baseB,Bool.and_eq_true,List.all_eq_true] at h
   rw [get_cons] at hy
   by_cases hj:j=k
   ·rw [if_pos hj] at hy;cases hy;exact ⟨h.1.1,h.1.2⟩
   ·rw [if_neg hj] at hy;exact ih h.2 k y hy
 have ancL:∀ {listed:Array Bool},ClosedL ops listed→∀ i,i<ops.size→(∀ j∈predsB ops i,listed.getD j false=true)→∀ a∈p.anc i,listed.getD a false=true:=by
  intro listed hc i
  induction i using Nat.strongRecOn with
  | ind i ih =>
   intro hi hp a ha
   have h1:=List.all_eq_true.1 (List.all_eq_true.1 hA i (by simpa using hi)) a ha
   simp only [Bool.or_eq_true,List.contains_iff_mem,List.any_eq_true] at h1
   rcases h1 with h1|⟨q,hq,h1⟩
   ·exact hp a h1
   ·obtain ⟨o,ho,ed,he,hb,rfl⟩:=mem_preds hq
    have hlt:=hedge i o ho ed he hb
    refine ih ed.on hlt (by omega) (fun j hj=>?_) a h1
    obtain ⟨o',ho',ed',he',hb',rfl⟩:=mem_preds hj
    exact hc ed.on o' (hp _ hq) ho' ed' he' hb'
 have ancLd:∀ {listed:Array Bool},listed.size=ops.size→ClosedL ops listed→∀ i,listed.getD i false=true→∀ a∈p.anc i,listed.getD a false=true:=by
  intro listed hsz hc i hi
  have hlt:i<ops.size:=by
   rcases Nat.lt_or_ge i ops.size with h|h
   ·exact h
   ·rw [← hsz] at h;simp [Nat.not_lt.2 h] at hi
  refine ancL hc i hlt (fun j hj=>?_)
  obtain ⟨o,ho,ed,he,hb,rfl⟩:=mem_preds hj
  exact hc i o hi ho ed he hb
 intro fuel
 induction fuel with
 | zero =>
  intro listed a w e S hsz hc hcl r hge hb hs hcr
  exfalso
  have h1:=hge m (Nat.le_refl _)
  have hls:m<listed.size:=by omega
  have:false∈listed.toList:=by
   simp [hls] at h1
   exact List.mem_iff_getElem.2 ⟨m,by simpa using hls,by simpa using h1⟩
  have:=List.count_pos_iff.2 this
  omega
 | succ fuel ih =>
  intro listed a w e S hsz hc hcl r hge hb hs hcr
  by_cases hall:∀ j,j<m→listed.getD j false=true
  · -- all that is drawn is done
   have hlt:∀ j,j<ops.size→(listed.getD j false=true↔j<m):=fun j hj=>by
    constructor
    ·intro h
     rcases Nat.lt_or_ge j m with h1|h1
     ·exact h1
     ·rw [hge j h1] at h;cases h
    ·exact hall j
   have hcount:listed.toList.count false+m=ops.size:=by
    have:=cnt listed.toList m (by simp;omega) (fun j hj=>by
     have hjl:j<listed.size:=by simpa using hj
     have:=hlt j (by omega)
     simp [hjl] at this ⊢
     exact this)
    simpa [hsz] using this
   refine any_tail ht hedge (fuel+1) m listed a w (by omega) (Nat.le_refl _) hsz hlt ?_
   rw [hC (fun e=>listed.getD e false) (fun _=>true) (fun e he=>hall e (hE e he))] at r
   refine hfin e a w (r.less (fun k y hk=>?_) (fun h=>h))
   rcases finS_get hk with ⟨i,hi⟩|h
   ·obtain ⟨hi,he⟩:=killD_get hi
    have hil:i<D.length:=by
     rcases Nat.lt_or_ge i D.length with h|h
     ·exact h
     ·rw [List.getElem?_eq_none h] at hi;cases hi
    exact hs i k y (hall i (by omega)) hi (fun q hq _=>List.all_eq_true.1 he q hq)
   ·exact hb k y h
  -- what may come up now is drawn
  have hlow:∀ i∈Region.ready .any ops listed,i<m:=by
   intro i hi
   rw [mem_ready] at hi
   obtain ⟨h0,o,ho,hpre⟩:=hi
   rcases Nat.lt_or_ge i m with h|h
   ·exact h
   ·exfalso
    have hlt:i<ops.size:=(Array.getElem?_eq_some_iff.1 ho).1
    rcases Nat.eq_or_lt_of_le h with h|h
    ·subst h
     refine hall (fun j hj=>?_)
     have hc:=hcov j hj
     rw [List.contains_iff_mem] at hc
     refine ancs_listed hcl f m (fun q hq=>?_) j hc
     obtain ⟨o',ho',ed,he,hbb,rfl⟩:=mem_preds hq
     rw [ho] at ho';cases ho'
     exact hpre ed he hbb
    ·have hc:=hch (i-m-1) (by omega)
     rw [show m+1+(i-m-1)=i by omega,show m+(i-m-1)=i-1 by omega,List.contains_iff_mem] at hc
     obtain ⟨o',ho',ed,he,hbb,hon⟩:=mem_preds hc
     rw [ho] at ho';cases ho'
     have:=hpre ed he hbb
     rw [hon,hge (i-1) (by omega)] at this
     cases this
  refine ⟨fun hr=>?_,fun i hi=>?_⟩
  ·exfalso
   refine hall (fun j=>?_)
   induction j using Nat.strongRecOn with
   | ind j ihj =>
    intro hj
    cases hl:listed.getD j true with
    | true =>
     have:j<listed.size:=by omega
     simp [this] at hl ⊢
     exact hl
    | false =>
     exfalso
     have hmem:j∈Region.ready .any ops listed:=by
      rw [mem_ready]
      refine ⟨hl,ops[j],by simp [show j<ops.size by omega],fun e he hbb=>?_⟩
      have h1:=hedge j ops[j] (by simp [show j<ops.size by omega]) e he hbb
      exact ihj e.on h1 (by omega)
     rw [hr] at hmem;cases hmem
  ·have him:=hlow i hi
   rw [mem_ready] at hi
   obtain ⟨h0,o,ho,hpre⟩:=hi
   have hlt:i<ops.size:=(Array.getElem?_eq_some_iff.1 ho).1
   have hif:listed.getD i false=false:=by
    have:i<listed.size:=by omega
    simp [this] at h0 ⊢
    exact h0
   have hlf:listed.toList[i]?=some false:=by
    have:i<listed.size:=by omega
    simp [this] at h0 ⊢
    exact h0
   have hpl:∀ j∈predsB ops i,listed.getD j false=true:=by
    intro j hj
    obtain ⟨o',ho',ed,he,hb',rfl⟩:=mem_preds hj
    rw [ho] at ho'
    cases ho'
    exact hpre ed he hb'
   have hanc:=ancL hcl i hlt hpl
   obtain ⟨x,hx,hcre,hst⟩:=hstep i o him ho
   unfold wpOp
   simp only [ho]
   have hhi:∀ q,i∈p.anc q→listed.getD q false=false:=fun q hq=>by
    cases hb:listed.getD q false with
    | false=>rfl
    | true=>rw [ancLd hsz hcl q hb i hq] at hif;cases hif
   have hav:∀ k y,get (availX p i (D.take i) o.after.toList base) k=some y→get S k=some y:=by
    intro k y hk
    rcases availX_get hk with ⟨ed,h1,h2,h3,h5⟩|h
    ·have h4:D[ed.on]?=some (some k,y):=by
      rw [List.getElem?_take] at h3
      split at h3
      ·exact h3
      ·cases h3
     refine hs ed.on k y (hpre ed (by simpa using h1) h2) h4 (fun q hq hql=>?_)
     have h6:=List.all_eq_true.1 h5 q hq
     simp only [Bool.or_eq_true,List.contains_iff_mem] at h6
     rcases h6 with (h6|h6)|h6
     ·exact h6
     ·have:=Nat.eq_of_beq_eq_true h6
      rw [← this,hif] at hql;cases hql
     ·rw [ancLd hsz hcl q.1 hql i h6] at hif;cases hif
    ·exact hb k y h
   have hset:∀ j,j≠i→(listed.setIfInBounds i true).getD j false=listed.getD j false:=fun j hj=>getD_set_ne false (Ne.symm hj)
   have hseti:(listed.setIfInBounds i true).getD i false=true:=by
    have:i<listed.size:=by omega
    simp [this]
   have hphn:(if i∈p.E then C (setM (fun e=>listed.getD e false) i) else C (fun e=>listed.getD e false))=C (fun e=>(listed.setIfInBounds i true).getD e false):=by
    have h1:C (setM (fun e=>listed.getD e false) i)=C (fun e=>(listed.setIfInBounds i true).getD e false):=by
     congr 1;funext k;unfold setM
     by_cases hk:k=i
     ·rw [if_pos hk,hk,hseti]
     ·rw [if_neg hk,hset k hk]
    by_cases hi:i∈p.E
    ·rw [if_pos hi,h1]
    ·rw [if_neg hi]
     exact hC _ _ (fun e he=>(hset e (fun h=>hi (h▸he))).symm)
   refine hst (fun e=>listed.getD e false) hanc hhi hif e a w S _ Q r hav (fun k y hy q hq hqi=>hcr k y hy q hq (by rw [hqi];exact hif)) (fun e' a' w' S' r' hu=>?_)
   refine ih (listed.setIfInBounds i true) a' w' e' S' (by simpa using hsz) ?_ ?_ (by rw [← hphn];exact r') (fun j hj=>by rw [hset j (by omega)];exact hge j hj) (fun k y hk=>?_) (fun j d y hj hy hq=>?_) (fun k y hy q hq hql=>?_)
   ·rw [Array.toList_setIfInBounds]
    have hlt':i<listed.toList.length:=by simpa using (by omega:i<listed.size)
    have hg:listed.toList[i]=false:=by
     have:=List.getElem?_eq_getElem hlt'
     rw [hlf] at this
     simpa using this.symm
    rw [List.count_set hlt',hg,hc]
    simp
   ·intro j o' hj ho' ed he hb'
    by_cases hji:j=i
    ·subst hji
     rw [ho] at ho';cases ho'
     have:=hpre ed he hb'
     by_cases h:ed.on=j
     ·rw [h];exact hseti
     ·rw [hset _ h];exact this
    ·rw [hset j hji] at hj
     have:=hcl j o' hj ho' ed he hb'
     by_cases h:ed.on=i
     ·rw [h];exact hseti
     ·rw [hset _ h];exact this
   ·refine hu.2.1 k y (fun h=>?_) (hb k y hk) (fun q hq _=>(bspec hbse k y hk).2 q hq)
    rw [hbase i o k him ho h] at hk;cases hk
   ·by_cases hji:j=i
    ·subst hji
     rw [hx] at hy
     simp only [Option.some.injEq,Prod.mk.injEq] at hy
     rw [← hy.2]
     exact hu.1 d hy.1
    ·rw [hset j hji] at hj
     have hold:=hs j d y hj hy (fun q hqk hql=>hq q hqk (by
      by_cases h:q.1=i
      ·rw [h];exact hseti
      ·rw [hset _ h];exact hql))
     refine hu.2.1 d y (fun h=>?_) hold (fun q hqk hqi=>hq q hqk (by rw [hqi];exact hseti))
     have hjl:j<m:=by
      rw [← hD]
      rcases Nat.lt_or_ge j D.length with h|h
      ·exact h
      ·rw [List.getElem?_eq_none h] at hy;cases hy
     obtain ⟨x',hx',_⟩:=hstep j ops[j] hjl (by simp [show j<ops.size by omega])
     rw [hx'] at hy
     simp only [Option.some.injEq,Prod.mk.injEq] at hy
     exact hji (hdist j i ops[j] o d hjl him (by simp [show j<ops.size by omega]) ho hy.1 h)
   ·have hqi:q.1≠i:=fun h=>by rw [h,hseti] at hql;cases hql
    rw [hset _ hqi] at hql
    rcases hu.2.2 k y hy with ⟨_,rfl⟩|h|rfl
    ·have h6:=List.all_eq_true.1 hcre q hq
     simp only [Bool.or_eq_true,List.contains_iff_mem] at h6
     rcases h6 with (h6|h6)|h6
     ·exact absurd (Nat.eq_of_beq_eq_true h6) hqi
     ·rw [hanc q.1 h6] at hql;cases hql
     ·exact h6
    ·exact hcr k y h q hq hql
    ·rfl

def Pl.fineT (p:Pl) (ops:Array Oper) (base:List (Nat×AV)) (m:Nat):Bool :=
 p.ancB ops&&p.baseB base&&(p.E.all fun e=>Nat.blt e m)

theorem C_drawMT (p:Pl) (f m:Nat) {id:Nat} {Q:Exit→St→Prop} {s base:List (Nat×AV)} {c:List Ch} (C:(Nat→Bool)→List Ch) (hb:eraseD (ops.toList.take m) s=some base) (hchk:chkD base 0 [] (ops.toList.take m)=true) (hed:edgesB ops=true)
  (ht:tailB ops f m=true) (hfine:p.fineT ops base m=true) (hC:∀ L L':Nat→Bool,(∀ e∈p.E,L e=L' e)→C L=C L') (h0:C (fun _=>false)=c)
  (h:SymM X n ops p base C (fun s=>SymO X n ops (ops.toList.drop m) s (fun s=>Q .normal s)) (ops.toList.take m) []):SymC X n (.region id ops true) ⟨s,c⟩ Q:=by
 intro e a w r
 have hbs:∀ k y,get base k=some y→get s k=some y:=fun k y hk=>eraseD_get hb hk
 simp only [Pl.fineT,Bool.and_eq_true] at hfine
 obtain ⟨⟨g1,g2⟩,g3⟩:=hfine
 obtain ⟨D,_,hl,hK,hs⟩:=h.plan
 obtain ⟨c1,c2⟩:=chkD_spec hchk
 have hbel:Below w.heap.size w { w with drawn:=w.drawn+1 }:=⟨rfl,rfl,rfl,Nat.le_refl _,fun _ _=>rfl⟩
 have hm:m<ops.size:=by
  unfold tailB at ht
  simp only [Bool.and_eq_true] at ht
  have h1:=ht.1.1
  simp [Nat.blt] at h1;omega
 have hEs:∀ e∈p.E,e<m:=fun e he=>by
  have:=List.all_eq_true.1 g3 e he
  simp [Nat.blt] at this;omega
 have htk:∀ (i:Nat) (o:Oper),i<m→ops[i]?=some o→(ops.toList.take m)[i]?=some o:=fun i o him ho=>by rw [List.getElem?_take,if_pos him];simpa using ho
 have hrep:∀ i,(Array.replicate ops.size false).getD i false=false:=fun i=>by
  rcases Nat.lt_or_ge i ops.size with h|h
  ·simp [h]
  ·simp [Nat.not_lt.2 h]
 refine wp_region_any X.wide ?_
 refine any_of_MT (X:=X) (Q:=concX X n Q) (n:=n) (p:=p) (base:=base) (C:=C) (D:=D) (f:=f) (m:=m) ht hEs hC g1 g2 (by simp at hl;omega) (fun i o him ho=>?_) (fun i o ho=>?_) (fun i j o o' d him hjm hi hj=>c2 i j o o' d (htk i o him hi) (htk j o' hjm hj)) (fun i o d him ho hd=>((c1 i o (htk i o him ho)).2 d hd).1)
  (fun e a w r=>hK e a w (concX X n Q) r fun e' st' _ _ hk hr=>⟨e',st',hr,hk⟩) _ _ a _ e base (by simp) (by simp) (fun j o hj=>by rw [hrep] at hj;cases hj) ?_ (fun j hj=>hrep j) (fun k y hk=>hk) (fun i d x hi=>by rw [hrep] at hi;cases hi) ?_
 ·have:=hs i o (htk i o him ho)
  simpa using this
 ·intro ed he hb'
  have hi:i<ops.toList.length:=by
   have:=(Array.getElem?_eq_some_iff.1 ho).1
   simpa using this
  have h1:=List.all_eq_true.1 hed i (List.mem_range.2 hi)
  have h2:=List.all_eq_true.1 h1 ed.on (by
   unfold predsB
   rw [show ops.toList[i]?=some o by simpa using ho]
   exact List.mem_map.2 ⟨ed,List.mem_filter.2 ⟨by simpa using he,hb'⟩,rfl⟩)
  simp [Nat.blt] at h2;omega
 ·have h1:C (fun e=>(Array.replicate ops.size false).getD e false)=C (fun _=>false):=hC _ _ (fun e _=>hrep e)
  rw [h1,h0]
  exact (r.below hbel).less hbs (fun h=>h)
 ·intro k y hy q hq _
  have:∀ {l:List (Nat×AV)},p.baseB l=true→get l k=some y→y.no q.2=true:=by
   intro l
   induction l with
   | nil=>intro _ h;simp [get] at h
   | cons z l ih =>
    obtain ⟨j,v⟩:=z
    intro h hy
    simp only [Pl.baseB,Bool.and_eq_true,List.all_eq_true] at h
    rw [get_cons] at hy
    by_cases hj:j=k
    ·rw [if_pos hj] at hy;cases hy;exact h.1.1 q hq
    ·rw [if_neg hj] at hy;exact ih h.2 hy
  exact this g2 hy
end
end Go.Sy
