/- The document: Ints, Same, Size, Great (printed by gen2.py) -/
import Derived.Test.YtgmdpfoccnalnaaGreatDoorE6
import Derived.Test.YtgmdpfoccnalnaaGreatDoorE7
import Derived.Test.YtgmdpfoccnalnaaGreatDoorE5
import Derived.Recover
import Derived.Test.YtgmdpfoccnalnaaGreatDoorE4
import Derived.Test.YtgmdpfoccnalnaaGreatDoorE3
import Derived.HandedShaped
import Derived.SizedLaws
import Derived.Lib.LaidU8T
import Derived.PinnedBridge
import Derived.Lay
import Derived.Shelf.Vars
import Derived.Test.YtgmdpfoccnalnaaGreatDoorRows
import Derived.Test.YtgmdpfoccnalnaaGreatDoorCards
import Derived.Test.YtgmdpfoccnalnaaGreatDoorTie
import Derived.JoinedOf
set_option linter.unusedSimpArgs false
set_option linter.unusedVariables false
set_option maxRecDepth 100000
namespace Go.Proofs
open Go.Sy Go.Lib

noncomputable def IntsR_L2 (x:List Int) (y:List Int) (s2:Int):Option ((Int) ⊕ ((Bool) ⊕ (Unit))) :=
 cond (decide (s2<(x.length:Int))) (chk ((0:Int)≤s2∧s2<(x.length:Int)) (chk ((0:Int)≤s2∧s2<(y.length:Int)) (cond ((x.getD (Int.toNat s2) default) != (y.getD (Int.toNat s2) default)) (some (Sum.inr ((Sum.inl false)))) (some (Sum.inl (IntKind.i64.wrap (s2+1))))))) (some (Sum.inr ((Sum.inr ()))))
noncomputable def IntsR_F (x:List Int) (y:List Int):Option (Bool) :=
 cond ((x.length:Int) != (y.length:Int)) (some false) (Option.bind (Iter (IntsR_L2 x y) 0) (Sum.elim (fun c12=>some c12) (fun b7=>some true)))
theorem IntsR_w (x:List Int) (y:List Int) (r:Bool) (h:IntsR_F x y=some r):FnP Tryz.prog 25 [SL 1 INTc x,SL 1 INTc y] (·=B r):=by
 unfold IntsR_F at h
 refine FnP.intro Tryz.tabOK Tryz.wide_ Tryz.func25 rfl (by decide) rfl (fun X=>?_)
 iterate 2 refine sc rfl ?_
 refine so rfl ?_
 refine so rfl ?_
 iterate 3 refine sc rfl ?_
 iterate 5 refine so rfl ?_
 refine so rfl ?_
 refine C_if rfl (fun hb1=>?_) (fun hb1=>?_)
 ·replace h:=cT hb1 h
  iterate 2 refine sc rfl ?_
  refine so rfl ?_
  refine so rfl ?_
  refine sc rfl ?_
  obtain rfl:=Option.some.inj h
  exact ⟨_,rfl,rfl,rfl⟩
 ·replace h:=cF hb1 h
  iterate 4 refine sc rfl ?_
  refine so rfl ?_
  refine so rfl ?_
  obtain ⟨o3,ho3,h⟩:=bT h
  refine C_joinP ((fun b7:Unit=>(⟨[],[]⟩:St)) (match o3 with|(.inl b7)=>default|(.inr b7)=>b7)) (∃ b,o3=(.inr b)) ?_ (fun s hs hp=>?_)
  ·refine sc rfl ?_
   refine C_iter (fun s2:Int=>⟨[(0,SL 1 INTc x),(1,SL 1 INTc y),(5,I64 s2)],[]⟩) ho3 (Le.sub [] ⟨rfl,rfl,rfl,trivial⟩ rfl) (fun s2 y4 hy5 hr6=>?_)
   unfold IntsR_L2 at hy5
   iterate 3 refine sc rfl ?_
   iterate 4 refine so rfl ?_
   refine so rfl ?_
   refine C_if rfl (fun hb8=>?_) (fun hb8=>?_)
   ·replace hy5:=cT hb8 hy5
    iterate 4 refine sc rfl ?_
    refine C_drawD rfl (by kernel_rfl) ?_
    iterate 2 refine sd rfl ?_
    obtain ⟨g9,hy5⟩:=gT hy5
    refine sd rfl (And.intro g9 ?_)
    iterate 3 refine sd rfl ?_
    obtain ⟨g10,hy5⟩:=gT hy5
    refine sd rfl (And.intro g10 ?_)
    iterate 2 refine sd rfl ?_
    refine sd rfl ?_
    refine C_if rfl (fun hb11=>?_) (fun hb11=>?_)
    ·replace hy5:=cT hb11 hy5
     iterate 2 refine sc rfl ?_
     refine so rfl ?_
     refine so rfl ?_
     refine sc rfl ?_
     obtain rfl:=Option.some.inj hy5
     have ho32:=hr6 _ rfl
     subst ho32
     obtain rfl:=Option.some.inj h
     exact ⟨_,rfl,rfl,rfl⟩
    ·replace hy5:=cF hb11 hy5
     iterate 2 refine sc rfl ?_
     iterate 3 refine so rfl ?_
     refine so rfl ?_
     obtain rfl:=Option.some.inj hy5
     exact ⟨_,rfl,Le.sub [] ⟨rfl,rfl,rfl,trivial⟩ rfl⟩
   ·replace hy5:=cF hb8 hy5
    refine sc rfl ?_
    obtain rfl:=Option.some.inj hy5
    have ho32:=hr6 _ rfl
    subst ho32
    exact ⟨Le.sub [] trivial rfl,⟨_,rfl⟩⟩
  obtain ⟨b7,rfl⟩:=hp
  refine C_le ⟨[],[]⟩ hs ?_
  iterate 2 refine sc rfl ?_
  refine so rfl ?_
  refine so rfl ?_
  refine sc rfl ?_
  obtain rfl:=Option.some.inj h
  exact ⟨_,rfl,rfl,rfl⟩
noncomputable def SameR_L10 (rec:Val→Val→Option (Bool)) (a:Val) (b:Val) (m1:Bool) (s10:Int):Option ((Int) ⊕ ((Bool) ⊕ (Unit))) :=
 cond (decide (s10<(a.items.length:Int))) (chk ((0:Int)≤s10∧s10<(a.items.length:Int)) (chk ((0:Int)≤s10∧s10<(b.items.length:Int)) (Option.bind (rec (a.items.getD (Int.toNat s10) default) (b.items.getD (Int.toNat s10) default)) (fun r19=>cond (!r19) (some (Sum.inr ((Sum.inl false)))) (some (Sum.inl (IntKind.i64.wrap (s10+1)))))))) (some (Sum.inr ((Sum.inr ()))))
noncomputable def SameR_F (rec:Val→Val→Option (Bool)) (a:Val) (b:Val):Option (Bool) :=
 Option.bind (α:=Bool) (cond (a.kind != b.kind) (some true) (cond (a.num != b.num) (some true) (cond (!(a.text == b.text)) (some true) (Option.bind (IntsR_F  a.tags b.tags) (fun r5=>cond (!r5) (some true) (some ((a.items.length:Int) != (b.items.length:Int)))))))) (fun m1=>cond m1 (some false) (Option.bind (Iter (SameR_L10 rec a b m1) 0) (Sum.elim (fun c22=>some c22) (fun b15=>some true))))
theorem SameR_wb (rec:Val→Val→Option (Bool)) (a:Val) (b:Val) (r:Bool) (hrec:∀ a b r,rec a b=some r→FnP Tryz.prog 13 [.agg (Val.c a),.agg (Val.c b)] (·=B r)) (h:SameR_F rec a b=some r):FnP Tryz.prog 13 [.agg (Val.c a),.agg (Val.c b)] (·=B r):=by
 unfold SameR_F at h
 refine FnP.intro Tryz.tabOK Tryz.wide_ Tryz.func13 rfl (by decide) rfl (fun X=>?_)
 iterate 2 refine sc rfl ?_
 refine so rfl ?_
 refine O_le _ (Le.freezebox 2 rfl rfl rfl) ?_
 refine so rfl ?_
 refine O_le _ (Le.freezebox 3 rfl rfl rfl) ?_
 refine so rfl ?_
 refine so rfl ?_
 iterate 2 refine sc rfl ?_
 obtain ⟨m1,hm1,h⟩:=bT h
 refine C_join ⟨[(2,.cp [I64 a.kind,I64 a.num,.s a.text,SL 1 INTc a.tags,.sl a.items.length 5 (Val.rows a.items)]),(3,.cp [I64 b.kind,I64 b.num,.s b.text,SL 1 INTc b.tags,.sl b.items.length 5 (Val.rows b.items)]),(41,B m1)],[]⟩ ?_ (fun s hm1s=>C_le _ hm1s ?_)
 ·refine sc rfl ?_
  iterate 6 refine so rfl ?_
  refine O_case 11 rfl (fun hb2=>?_) (fun hb2=>?_)
  ·replace hm1:=cT hb2 hm1
   iterate 30 refine so rfl ?_
   refine so rfl ?_
   obtain rfl:=Option.some.inj hm1
   exact Le.sub [] ⟨rfl,rfl,rfl,trivial⟩ rfl
  ·replace hm1:=cF hb2 hm1
   iterate 7 refine so rfl ?_
   refine O_case 18 rfl (fun hb3=>?_) (fun hb3=>?_)
   ·replace hm1:=cT hb3 hm1
    iterate 23 refine so rfl ?_
    refine so rfl ?_
    obtain rfl:=Option.some.inj hm1
    exact Le.sub [] ⟨rfl,rfl,rfl,trivial⟩ rfl
   ·replace hm1:=cF hb3 hm1
    iterate 7 refine so rfl ?_
    refine O_case 25 rfl (fun hb4=>?_) (fun hb4=>?_)
    ·replace hm1:=cT hb4 hm1
     iterate 16 refine so rfl ?_
     refine so rfl ?_
     obtain rfl:=Option.some.inj hm1
     exact Le.sub [] ⟨rfl,rfl,rfl,trivial⟩ rfl
    ·replace hm1:=cF hb4 hm1
     iterate 4 refine so rfl ?_
     obtain ⟨r5,hr6,hm1⟩:=bT hm1
     refine O_call (IntsR_w  _ _ _ hr6) (by rfl) (by rfl) (by rfl) (by rfl) (fun q7 hq7=>?_)
     subst hq7
     iterate 3 refine so rfl ?_
     refine O_case 33 rfl (fun hb8=>?_) (fun hb8=>?_)
     ·replace hm1:=cT hb8 hm1
      iterate 8 refine so rfl ?_
      refine so rfl ?_
      obtain rfl:=Option.some.inj hm1
      exact Le.sub [] ⟨rfl,rfl,rfl,trivial⟩ rfl
     ·replace hm1:=cF hb8 hm1
      iterate 2 refine so rfl ?_
      refine O_le _ (Le.one 35 (SL 5 Val.c a.items) rfl (.row (Val.rows_eq _))) ?_
      iterate 3 refine so rfl ?_
      refine O_le _ (Le.one 38 (SL 5 Val.c b.items) rfl (.row (Val.rows_eq _))) ?_
      iterate 3 refine so rfl ?_
      refine so rfl ?_
      obtain rfl:=Option.some.inj hm1
      exact Le.sub [] ⟨rfl,rfl,rfl,trivial⟩ rfl
 refine C_if rfl (fun hb9=>?_) (fun hb9=>?_)
 ·replace h:=cT hb9 h
  iterate 2 refine sc rfl ?_
  refine so rfl ?_
  refine so rfl ?_
  refine sc rfl ?_
  obtain rfl:=Option.some.inj h
  exact ⟨_,rfl,rfl,rfl⟩
 ·replace h:=cF hb9 h
  iterate 4 refine sc rfl ?_
  refine so rfl ?_
  refine so rfl ?_
  obtain ⟨o11,ho11,h⟩:=bT h
  refine C_joinP ((fun b15:Unit=>(⟨[],[]⟩:St)) (match o11 with|(.inl b15)=>default|(.inr b15)=>b15)) (∃ b,o11=(.inr b)) ?_ (fun s hs hp=>?_)
  ·refine sc rfl ?_
   refine C_iter (fun s10:Int=>⟨[(2,.cp [I64 a.kind,I64 a.num,.s a.text,SL 1 INTc a.tags,.sl a.items.length 5 (Val.rows a.items)]),(3,.cp [I64 b.kind,I64 b.num,.s b.text,SL 1 INTc b.tags,.sl b.items.length 5 (Val.rows b.items)]),(5,I64 s10)],[]⟩) ho11 (Le.sub [] ⟨rfl,rfl,rfl,trivial⟩ rfl) (fun s10 y12 hy13 hr14=>?_)
   unfold SameR_L10 at hy13
   iterate 3 refine sc rfl ?_
   iterate 3 refine so rfl ?_
   refine O_le _ (Le.one 44 (SL 5 Val.c a.items) rfl (.row (Val.rows_eq _))) ?_
   iterate 2 refine so rfl ?_
   refine so rfl ?_
   refine C_if rfl (fun hb16=>?_) (fun hb16=>?_)
   ·replace hy13:=cT hb16 hy13
    iterate 4 refine sc rfl ?_
    refine C_drawD rfl (by kernel_rfl) ?_
    refine sd rfl ?_
    refine sdw (SL 5 Val.c a.items) rfl rfl rfl (.row (Val.rows_eq _)) ?_
    refine sd rfl ?_
    obtain ⟨g17,hy13⟩:=gT hy13
    refine sd rfl (And.intro g17 ?_)
    iterate 2 refine sd rfl ?_
    refine sdw (SL 5 Val.c b.items) rfl rfl rfl (.row (Val.rows_eq _)) ?_
    refine sd rfl ?_
    obtain ⟨g18,hy13⟩:=gT hy13
    refine sd rfl (And.intro g18 ?_)
    refine sd rfl ?_
    obtain ⟨r19,hr20,hy13⟩:=bT hy13
    refine D_call (hrec _ _ _ hr20) rfl rfl rfl rfl ?_
    refine sd rfl ?_
    refine sd rfl ?_
    refine C_if rfl (fun hb21=>?_) (fun hb21=>?_)
    ·replace hy13:=cT hb21 hy13
     iterate 2 refine sc rfl ?_
     refine so rfl ?_
     refine so rfl ?_
     refine sc rfl ?_
     obtain rfl:=Option.some.inj hy13
     have ho112:=hr14 _ rfl
     subst ho112
     obtain rfl:=Option.some.inj h
     exact ⟨_,rfl,rfl,rfl⟩
    ·replace hy13:=cF hb21 hy13
     iterate 2 refine sc rfl ?_
     iterate 3 refine so rfl ?_
     refine so rfl ?_
     obtain rfl:=Option.some.inj hy13
     exact ⟨_,rfl,Le.sub [] ⟨rfl,rfl,rfl,trivial⟩ rfl⟩
   ·replace hy13:=cF hb16 hy13
    refine sc rfl ?_
    obtain rfl:=Option.some.inj hy13
    have ho112:=hr14 _ rfl
    subst ho112
    exact ⟨Le.sub [] trivial rfl,⟨_,rfl⟩⟩
  obtain ⟨b15,rfl⟩:=hp
  refine C_le ⟨[],[]⟩ hs ?_
  iterate 2 refine sc rfl ?_
  refine so rfl ?_
  refine so rfl ?_
  refine sc rfl ?_
  obtain rfl:=Option.some.inj h
  exact ⟨_,rfl,rfl,rfl⟩
noncomputable def SameR_X:Nat→Val→Val→Option (Bool)
 | 0=>fun _ _=>none
 | n+1=>SameR_F (SameR_X n)
theorem SameR_wn:∀ (n:Nat) (a:Val) (b:Val) (r:Bool),SameR_X n a b=some r→FnP Tryz.prog 13 [.agg (Val.c a),.agg (Val.c b)] (·=B r)
 | 0,_,_,_,h=>by cases h
 | n+1,a,b,r,h=>SameR_wb (SameR_X n) a b r (fun a b r hr=>SameR_wn n a b r hr) h
end Go.Proofs

namespace Go.Proofs
open Go.Sy Go.Lib

theorem least_at (f : Nat → Fld) (a : Nat) : ∀ (n : Nat), ∃ k, a ≤ k ∧ k < a + (n + 1) ∧ ∀ i, a ≤ i → i < a + (n + 1) → (f k).tag ≤ (f i).tag
  | 0 => ⟨a, Nat.le_refl _, by omega, fun i h1 h2 => by obtain rfl : i = a := by omega
                                                        exact Int.le_refl _⟩
  | n + 1 => by
    obtain ⟨k, h1, h2, h3⟩ := least_at f a n
    by_cases hc : (f k).tag ≤ (f (a + (n + 1))).tag
    · refine ⟨k, h1, by omega, fun i h4 h5 => ?_⟩
      by_cases hi : i < a + (n + 1)
      · exact h3 i h4 hi
      · obtain rfl : i = a + (n + 1) := by omega
        exact hc
    · refine ⟨a + (n + 1), by omega, by omega, fun i h4 h5 => ?_⟩
      by_cases hi : i < a + (n + 1)
      · have := h3 i h4 hi; omega
      · obtain rfl : i = a + (n + 1) := by omega
        exact Int.le_refl _
theorem sort_ex:∀ (n a b:Nat) (f:Nat→Fld),a+n=b→∃ g,PermOn a b f g∧Srt g a b
 | 0,a,b,f,h=>⟨f,.refl _ _ _,fun i j h1 h2 h3=>by omega⟩
 | n+1,a,b,f,h=>by
  obtain ⟨k,h1,h2,h3⟩:=least_at f a n
  have hp:=swp_perm f (u:=a) (v:=k) (a:=a) (b:=b) ⟨Nat.le_refl _,by omega⟩ ⟨h1,by omega⟩
  obtain ⟨g,hg1,hg2⟩:=sort_ex n (a+1) b (swp f a k) (by omega)
  have hpg:=hp.trans (hg1.mono (a':=a) (b':=b) (by omega) (Nat.le_refl _))
  refine ⟨g,hpg,fun i j hi hij hj=>?_⟩
  by_cases hia:i=a
  ·subst hia
   have e:g i=f k:=by
    rw [hg1.out (by omega)]
    unfold swp
    by_cases hk:i=k
    ·rw [if_pos hk,← hk]
    ·rw [if_neg hk,if_pos rfl]
   obtain ⟨q,q1,q2,q3⟩:=hpg.at_ (i:=j) (by omega) hj
   rw [e,q3]
   exact h3 q q1 (by omega)
  ·exact hg2 i j (by omega) hij hj
theorem srt_ex (F:List Fld):∃ R,SrtOf F R:=by
 obtain ⟨g,⟨p,r,h1,h2⟩,h3⟩:=sort_ex F.length 0 F.length (fun i=>F.getD i default) (by omega)
 have hR:∀ i,i<F.length→((List.range F.length).map g).getD i default=g i:=fun i hi=>by
  rw [List.getD_eq_getElem?_getD,List.getElem?_eq_getElem (by simpa using hi)];simp
 have hl:((List.range F.length).map g).length=F.length:=by simp
 refine ⟨(List.range F.length).map g,hl,⟨p,r,fun i a b=>?_,fun i hi=>?_⟩,fun i j a b c=>?_⟩
 ·obtain ⟨k1,k2,k3,k4,k5⟩:=h1 i a b
  exact ⟨k1,k2,k3,k4,by simp only [];rw [hR i b];exact k5⟩
 ·simp only []
  rw [List.getD_eq_getElem?_getD,List.getD_eq_getElem?_getD,List.getElem?_eq_none (by omega),List.getElem?_eq_none (by omega)]
 ·simp only []
  rw [hR i (by omega),hR j c];exact h3 i j a b c
theorem rows_ex (l:List Dcl):∃ Rs,RowsOK l Rs:=by
 refine ⟨(List.range l.length).map (fun i=>Classical.choose (srt_ex (l.getD i default).fields)),by simp,fun i hi=>?_⟩
 have e:((List.range l.length).map (fun i=>Classical.choose (srt_ex (l.getD i default).fields))).getD i default=Classical.choose (srt_ex (l.getD i default).fields):=by
  rw [List.getD_eq_getElem?_getD,List.getElem?_eq_getElem (by simpa using hi)];simp
 rw [e]
 exact Classical.choose_spec (srt_ex (l.getD i default).fields)

theorem rowsU_of {l:List Dcl} (hW:WellL l) (nm:List UInt8):(fndL nm l=none∧rowsU l nm=[])∨∃ j,fndL nm l=some j∧j<l.length∧DclOK l j (l.getD j default)∧kindL l nm=(l.getD j default).kind∧(∀ x,x∈rowsU l nm↔x∈(l.getD j default).fields)∧(rowsU l nm).Pairwise (fun a b=>a.tag<b.tag)∧(rowsU l nm).length=(l.getD j default).fields.length:=by
 obtain ⟨Rs,hRs⟩:=rows_ex l
 rw [← rowsU_eq hW hRs]
 unfold rowsL
 cases hf:fndL nm l with
 | none=>left;exact ⟨rfl,rfl⟩
 | some j =>
  right
  have hj:=fndL_lt hf
  have hn:=(List.nodup_append.1 (hW j hj).tags).1
  exact ⟨j,rfl,hj,hW j hj,by unfold kindL;rw [hf],((hRs.2 j hj).facts hn).1,(hRs.2 j hj).pw hn,(hRs.2 j hj).1⟩
theorem sch_of {l:List Dcl} (hl:FewL l) (hW:WellL l):Sch l:=by
 refine ⟨fun nm f hf hk=>?_,fun nm f hf hk=>?_,fun nm f hf hk=>?_,fun nm=>?_,fun nm=>?_⟩
 ·rcases rowsU_of hW nm with ⟨_,h⟩|⟨j,_,hj,hd,hkd,hm,_,_⟩
  ·rw [h] at hf;cases hf
  ·exact (hd.fs.ty f ((hm f).1 hf) (by rw [← hkd];exact hk)).1
 ·rcases rowsU_of hW nm with ⟨_,h⟩|⟨j,_,hj,hd,hkd,hm,_,_⟩
  ·rw [h] at hf;cases hf
  ·have:=hd.fs.rng f ((hm f).1 hf)
   rw [← hkd] at this
   unfold leastD mostD at this
   rw [if_neg hk,if_neg hk] at this
   exact this
 ·rcases rowsU_of hW nm with ⟨_,h⟩|⟨j,_,hj,hd,hkd,hm,_,_⟩
  ·rw [h] at hf;cases hf
  ·have:=hd.fs.rng f ((hm f).1 hf)
   rw [← hkd] at this
   unfold leastD mostD at this
   rw [if_pos hk,if_pos hk] at this
   exact this
 ·rcases rowsU_of hW nm with ⟨_,h⟩|⟨j,_,hj,hd,hkd,hm,hp,_⟩
  ·rw [h];exact .nil
  ·exact hp
 ·rcases rowsU_of hW nm with ⟨_,h⟩|⟨j,_,hj,hd,hkd,hm,hp,hlen⟩
  ·rw [h];exact Nat.zero_le _
  ·rw [hlen];exact (hl.2 j hj).f.1

theorem fit_len {l:List Dcl}:∀ (d:Nat) (t:Ty) (v:Val),Fit l d t v→v.size≤100000→LenB v
 | 0,t,v,hF,_=>by have:=fit_pos hF;omega
 | d+1,t,v,hF,hs=>by
  have hlen:∀ l:List Val,l.length≤Val.sizes l:=by
   intro l
   induction l with
   | nil=>exact Nat.zero_le _
   | cons x l ih=>simp only [List.length_cons,Val.sizes];have:=size_ge x;omega
  rw [size_eq] at hs
  have h1:=hlen v.items
  have step:v.tags.length≤100000→(∀ i,i<v.items.length→∃ t,Fit l d t (v.items.getD i default))→LenB v:=fun ht h=>.mk (by omega) ht (by omega) (fun i hi=>by
   obtain ⟨t,ht⟩:=h i hi
   exact fit_len d t _ ht (by have:=size_at hi;omega))
  have none:∀ i,i<([]:List Val).length→∃ t,Fit l d t (([]:List Val).getD i default):=fun i hi=>absurd hi (Nat.not_lt_zero _)
  cases hF with
  | bool _ _ _=>exact step (Nat.zero_le _) none
  | num _ _ _=>exact step (Nat.zero_le _) none
  | text _ _=>exact step (Nat.zero_le _) none
  | list _ h2=>exact step (Nat.zero_le _) (fun i hi=>⟨_,h2 i hi⟩)
  | map _ _ _ h4=>exact step (Nat.zero_le _) (fun i hi=>⟨_,h4 i hi⟩)
  | enum _ _ _ _ _=>exact step (Nat.zero_le _) none
  | union _ _ _ h4 =>
   refine step (by simp) (fun i hi=>?_)
   have hi':i<1:=hi
   obtain rfl:i=0:=by omega
   exact ⟨_,h4⟩
  | struct _ _ h3 _ _ h6 _ =>
   refine step (by simp only [] at h1 hs ⊢;rw [h3];omega) (fun i hi=>⟨_,h6 i (by rw [h3];exact hi)⟩)

end Go.Proofs

namespace Go.Proofs
open Go.Sy Go.Lib

theorem goodI_err {m:List Dcl} {d:Nat} {M:Int} {t:Ty} {s:List UInt8} {made e:Int} (h:e≠0):GoodI m d M t s made (.error e):=⟨fun e' he=>(by cases he;exact h),fun v made' he=>(by cases he)⟩
theorem goodC_err {m:List Dcl} {d:Nat} {M:Int} {t:Ty} {s:List UInt8} {made e:Int} (h:e≠0):GoodC m d M t s made (.error e):=⟨fun e' he=>(by cases he;exact h),fun v rest made' he=>(by cases he)⟩
theorem goodI_ok {m:List Dcl} {d:Nat} {M:Int} {t:Ty} {s:List UInt8} {made made':Int} {v:Val} (h1:Fit m d t v) (h2:made'=made+((v.size:Int)-8)) (h3:made'≤M) (h4:v.size≤9*s.length+8) (h5:(encI m d t v).length≤s.length):GoodI m d M t s made (.ok (v,made')) :=
 ⟨fun e' he=>(by cases he),fun v made' he=>(by cases he;exact ⟨h1,h2,h3,h4,h5⟩)⟩

theorem fields_tot {m:List Dcl} (hm:Sch m) {d:Nat} {rec:DRec} {M made:Int} {t:Ty} (h6:(strip t).kind=6) (hk:kindL m (strip t).name=1) {deep deep':Int} (hd:IntKind.i64.wrap (deep+1)=deep') (s:List UInt8) (hS:s.length≤4000) (h0:0≤made) (hM:made≤M) (hB:made+9*(s.length:Int)+8≤BB) (hr:∀ b t,TyOK m b t→GoodR m d rec M deep' t) :
  ∃ r,fieldsF m rec (strip t).name s deep made=some r∧GoodI m (d+1) M t s made r:=by
 unfold fieldsF
 obtain ⟨r,h1,h2,h3⟩:=fldGo_tot hm (nm:=(strip t).name) (by omega) hd hS h0 hB hr (s.length+1) s 0 [] [] made (by omega) hM
  ⟨rfl,.nil,Int.le_refl 0,fun g hg=>(by cases hg),fun i hi=>absurd hi (Nat.not_lt_zero _),fun i hi=>absurd hi (Nat.not_lt_zero _),by simp [Val.sizes],by simp [Val.sizes],by simp [catR],by simp⟩
 rw [h1,Option.bind_some]
 cases r with
 | error e=>exact ⟨_,rfl,goodI_err (h2 e rfl)⟩
 | ok q =>
  obtain ⟨tg,it,made'⟩:=q
  obtain ⟨last,hM',hI⟩:=h3 tg it made' rfl
  simp only [DRows_F,Option.bind_some]
  rw [chk_pos (by have:=hm.len (strip t).name;omega)]
  cases hw:whGo tg (rowsU m (strip t).name) 0 with
  | false=>exact ⟨_,rfl,goodI_err (by decide)⟩
  | true =>
   refine ⟨_,rfl,goodI_ok (.struct h6 hk hI.two hI.pw hI.has hI.fit hw) ?_ hM' ?_ ?_⟩
   ·rw [size_many,hI.made];omega
   ·rw [size_many];have:=hI.size;simp at this;omega
   ·simp only [encI,encF]
    rw [if_neg (by omega),if_neg (by omega),if_pos ⟨h6,by omega⟩]
    have:=hI.enc
    simp only [List.length_nil] at this
    omega
theorem union_tot {m:List Dcl} (hm:Sch m) {d:Nat} {rec:DRec} {M made:Int} {t:Ty} (h6:(strip t).kind=6) (hk:kindL m (strip t).name=2) {deep deep':Int} (hd:IntKind.i64.wrap (deep+1)=deep') (s:List UInt8) (hS:s.length≤4000) (h0:0≤made) (hM:made≤M) (hB:made+9*(s.length:Int)+8≤BB) (hr:∀ b t,TyOK m b t→GoodR m d rec M deep' t) :
  ∃ r,unionF m rec (strip t).name s deep made=some r∧GoodI m (d+1) M t s made r:=by
 unfold unionF
 by_cases hs:s=[]
 ·rw [if_pos hs];exact ⟨_,rfl,goodI_err (by decide)⟩
 rw [if_neg hs]
 rcases key_tot m (strip t).name s (by omega) with ⟨e,he,hk'⟩|⟨g,w,rest,g1,g2,hw,hsr,hk'⟩
 ·rw [hk'];exact ⟨_,rfl,goodI_err he⟩
 rw [hk',Option.bind_some]
 simp only []
 have hv:=vput_pos (2*g+w).toNat
 have hsl:s.length=(vput (2*g+w).toNat).length+rest.length:=by rw [hsr,List.length_append]
 cases hh:hasJ (rowsU m (strip t).name) g with
 | false=>rw [if_pos rfl];exact ⟨_,rfl,goodI_err (by decide)⟩
 | true =>
  obtain ⟨hT,_,_⟩:=row_ty hm (nm:=(strip t).name) (by omega) hh
  rw [if_neg (by decide),show FU=99998+2 from rfl,wire_ok hT,Option.bind_some]
  by_cases hwr:w≠wireT m (fldJ (rowsU m (strip t).name) g).ty
  ·rw [if_pos hwr];exact ⟨_,rfl,goodI_err (by decide)⟩
  rw [if_neg hwr,hd]
  have hwr':w=wireT m (fldJ (rowsU m (strip t).name) g).ty:=by simpa using hwr
  obtain ⟨r,hr1,hr2,hr3⟩:=hr false _ hT rest made (by omega) (by omega) (by omega)
  rw [hr1,Option.bind_some]
  cases r with
  | error e=>exact ⟨_,rfl,goodI_err (hr2 e rfl)⟩
  | ok q =>
   obtain ⟨v,rest2,made'⟩:=q
   obtain ⟨a1,a2,a3,a4,a5⟩:=hr3 v rest2 made' rfl
   simp only []
   by_cases hz:rest2≠[]
   ·rw [if_pos hz];exact ⟨_,rfl,goodI_err (by decide)⟩
   rw [if_neg hz]
   have hz':rest2=[]:=by simpa using hz
   subst hz'
   simp only [List.length_nil] at a4 a5
   have e1:Val.sizes [v]=v.size:=by simp only [Val.sizes];omega
   refine ⟨_,rfl,goodI_ok (.union h6 hk hh a1) (by rw [size_many,e1,a2];omega) a3 (by rw [size_many,e1];omega) ?_⟩
   simp only [encI,encF]
   rw [if_neg (by omega),if_neg (by omega),if_pos ⟨h6,by omega⟩]
   simp only [List.length_singleton,catR,List.append_nil]
   show (vput (2*g+wireT m (fldJ (rowsU m (strip t).name) g).ty).toNat++encC m (encI m d) (fldJ (rowsU m (strip t).name) g).ty v).length≤s.length
   rw [List.length_append,← hwr']
   omega

theorem in_tot {m:List Dcl} (hm:Sch m) {d:Nat} {rec:DRec} {most made:Int} {b:Bool} {t:Ty} (hT:TyOK m b t) (hw:wireT m t=1) {deep deep':Int} (hd:IntKind.i64.wrap (deep+1)=deep') (s:List UInt8) (hS:s.length≤4000) (h0:0≤made) (hM:made≤max most 0) (hB:made+9*(s.length:Int)+8≤BB) (hr:∀ b t,TyOK m b t→GoodR m d rec (max most 0) deep' t) :
  ∃ r,inF m most rec (strip t) s deep made=some r∧GoodI m (d+1) (max most 0) t s made r:=by
 obtain ⟨hI,h9⟩:=strip_ok hT
 have hk:=hI.kind
 have hnw:¬ ((strip t).kind=1∨(strip t).kind=2∨(strip t).kind=3∨((strip t).kind=6∧kindL m (strip t).name=3)):=fun h=>by rw [wire_num h] at hw;cases hw
 unfold inF
 by_cases h45:(strip t).kind=4∨(strip t).kind=5
 ·rw [if_pos h45,pay_eq h0 (by omega) (by unfold BB at hB;omega)]
  by_cases hc:max most 0<made+((s.length:Nat):Int)
  ·rw [if_pos hc];exact ⟨_,rfl,goodI_err (by decide)⟩
  rw [if_neg hc]
  simp only []
  have hval:∃ v,(if (strip t).kind=4 then ValidV_F s else some true)=some v∧(v=true→(strip t).kind=4→badL s<0):=by
   split
   ·refine ⟨_,by unfold ValidV_F;rw [chk_pos (by omega)],fun h _=>by simpa using h⟩
   ·exact ⟨true,rfl,fun _ h=>absurd h (by assumption)⟩
  obtain ⟨v,hv,hv2⟩:=hval
  rw [hv,Option.bind_some]
  cases v with
  | false=>rw [if_pos rfl];exact ⟨_,rfl,goodI_err (by decide)⟩
  | true =>
   rw [if_neg (by decide)]
   have hz:Val.size ⟨(strip t).kind,0,s,[],[]⟩=8+s.length:=by simp only [Val.size,Val.sizes];omega
   refine ⟨_,rfl,goodI_ok (.text h45 (hv2 rfl)) (by rw [hz];omega) (by omega) (by rw [hz];omega) ?_⟩
   simp only [encI,encF];rw [if_pos h45];exact Nat.le_refl _
 rw [if_neg h45]
 by_cases h7:(strip t).kind=7
 ·rw [if_pos h7]
  have hl1:=hI.len.1 h7
  obtain ⟨r,h1,h2,h3⟩:=listGo_tot (m:=m) (d:=d) (t:=strip t) hd (by omega) hS h0 hB (hr true _ (hI.sub 0 (by omega))) (s.length+1) s [] made (by omega) hM
   ⟨fun i hi=>absurd hi (Nat.not_lt_zero _),by simp [Val.sizes],by simp [Val.sizes],by simp [catR],by simp⟩
  refine ⟨r,h1,?_⟩
  cases r with
  | error e=>exact goodI_err (h2 e rfl)
  | ok q =>
   obtain ⟨v,made'⟩:=q
   obtain ⟨ys,rfl,hM',hI'⟩:=h3 v made' rfl
   refine goodI_ok (.list h7 hI'.fit) (by rw [size_many,hI'.made];omega) hM' (by rw [size_many];have:=hI'.size;simp at this;omega) ?_
   simp only [encI,encF]
   rw [if_neg h45,if_pos (.inl h7)]
   have:=hI'.enc
   simp only [List.length_nil] at this
   rw [catR_congr (g:=fun i=>encC m (encI m d) ((strip t).of.getD 0 default) (ys.getD i default)) ys.length 0 (fun j _ hj=>by
    have e0:j % (strip t).of.length=0:=by rw [hl1];omega
    unfold encM
    rw [e0])]
   omega
 rw [if_neg h7]
 by_cases h8:(strip t).kind=8
 ·rw [if_pos h8]
  have hl2:=hI.len.2 h8
  unfold pairsF
  obtain ⟨r,h1,h2,h3⟩:=pairsGo_tot (m:=m) (d:=d) (t:=strip t) hd (by omega) hS h0 hB (fun i hi=>hr true _ (hI.sub i (by omega))) (s.length+1) s [] made (by omega) hM rfl (fun i hi=>absurd hi (by simp))
   ⟨fun i hi=>absurd hi (Nat.not_lt_zero _),by simp [Val.sizes],by simp [Val.sizes],by simp [catR],by simp⟩
  refine ⟨r,h1,?_⟩
  cases r with
  | error e=>exact goodI_err (h2 e rfl)
  | ok q =>
   obtain ⟨v,made'⟩:=q
   obtain ⟨ys,rfl,hM',hev,hup,hI'⟩:=h3 v made' rfl
   refine goodI_ok (.map h8 hev hup hI'.fit) (by rw [size_many,hI'.made];omega) hM' (by rw [size_many];have:=hI'.size;simp at this;omega) ?_
   simp only [encI,encF]
   rw [if_neg h45,if_pos (.inr h8)]
   have:=hI'.enc
   simp only [List.length_nil] at this
   rw [catR_congr (g:=fun i=>encC m (encI m d) ((strip t).of.getD (i % 2) default) (ys.getD i default)) ys.length 0 (fun j _ hj=>by unfold encM;rw [hl2])]
   omega
 rw [if_neg h8,DKind_F,Option.bind_some]
 have h6:(strip t).kind=6:=by omega
 have:=hI.six h6
 by_cases h2:kindL m (strip t).name=2
 ·rw [if_pos h2];exact union_tot hm h6 h2 hd s hS h0 hM hB hr
 ·rw [if_neg h2];exact fields_tot hm h6 (by omega) hd s hS h0 hM hB hr

theorem num_tot {m:List Dcl} (hm:Sch m) {d:Nat} {M made:Int} {b:Bool} {t:Ty} (hT:TyOK m b t) (hw:wireT m t=0) (s:List UInt8) (hS:s.length≤4000) (hM:made+8≤M) :
  ∃ r,numberF m (strip t) s=some r∧(∀ e,r=.error e→e≠0)∧∀ v rest,r=.ok (v,rest)→GoodC m (d+1) M t s made (.ok (v,rest,made+8)):=by
 obtain ⟨hI,h9⟩:=strip_ok hT
 have hc:(strip t).kind=1∨(strip t).kind=2∨(strip t).kind=3∨((strip t).kind=6∧kindL m (strip t).name=3):=by
  unfold wireT at hw
  split at hw
  ·assumption
  ·cases hw
 unfold numberF
 rcases VTake_tot s (by omega) with ⟨e,he,ht⟩|⟨n,rest,hn,hsr,ht⟩
 ·rw [ht,Option.bind_some,if_pos he]
  exact ⟨_,rfl,fun e' h=>(by cases h;exact he),fun v rest h=>(by cases h)⟩
 rw [ht,Option.bind_some]
 simp only []
 rw [if_neg (by decide)]
 have hv:=vput_pos n
 have hsl:s.length=(vput n).length+rest.length:=by rw [hsr,List.length_append]
 have key:(∃ e,e≠0∧numWV m (strip t) (n:Int)=some (.error e))∨∃ v,numWV m (strip t) (n:Int)=some (.ok v)∧Fit m (d+1) t v∧v.size=8∧encC m (encI m (d+1)) t v=vput n:=by
  unfold numWV
  by_cases h1:(strip t).kind=1
  ·rw [if_pos h1]
   by_cases hn1:(1:Int)<(n:Int)
   ·rw [if_pos hn1];exact .inl ⟨1,by decide,rfl⟩
   ·rw [if_neg hn1,w64 (by omega) (by omega),h1]
    refine .inr ⟨_,rfl,.bool h1 (by omega) (by omega),rfl,?_⟩
    rw [enc_num hw,if_neg (by simp only [];decide)]
    simp only []
    congr 1
  rw [if_neg h1]
  by_cases h2:(strip t).kind=2
  ·rw [if_pos h2,VBack_ok hn,Option.bind_some]
   have:=unz_rng hn
   refine .inr ⟨_,rfl,.num (.inl h2) this.1 this.2,rfl,?_⟩
   rw [enc_num hw,if_pos h2,zig_unz]
  rw [if_neg h2]
  by_cases h6:(strip t).kind=6
  ·rw [if_pos h6]
   by_cases hn1:(9999:Int)<(n:Int)
   ·rw [if_pos hn1];exact .inl ⟨9,by decide,rfl⟩
   ·rw [if_neg hn1,w64 (by omega) (by omega),DRow_F2,Option.bind_some]
    simp only []
    cases hh:hasJ (rowsU m (strip t).name) (n:Int) with
    | false=>rw [if_neg (by decide)];exact .inl ⟨9,by decide,rfl⟩
    | true =>
     rw [if_pos rfl]
     refine .inr ⟨_,rfl,.enum h6 (by omega) (by omega) (by omega) hh,rfl,?_⟩
     rw [enc_num hw,if_neg (by simp only [];decide)]
     simp only []
     congr 1
  rw [if_neg h6]
  have:=i64_rng hn
  refine .inr ⟨_,rfl,.num (by omega) this.1 this.2,rfl,?_⟩
  rw [enc_num hw,if_neg h2,usg_i64 hn]
 rcases key with ⟨e,he,hk⟩|⟨v,hk,hF,hsz,henc⟩
 ·rw [hk]
  exact ⟨_,rfl,fun e' h=>(by cases h;exact he),fun v rest h=>(by cases h)⟩
 ·rw [hk,Option.bind_some]
  simp only []
  rw [chk_pos (by omega),Int.toNat_natCast,hsr,List.drop_left,← hsr]
  refine ⟨_,rfl,fun e' h=>(by cases h),fun v' rest' h=>?_⟩
  cases h
  refine ⟨fun e' h=>(by cases h),fun v' rest' made' h=>?_⟩
  cases h
  exact ⟨hF,by rw [hsz];rfl,hM,by omega,by rw [henc];omega⟩

theorem dec_tot {m:List Dcl} (hm:Sch m) (most:Int):∀ (d n:Nat),d≤8→2*d+2≤n→∀ b t,TyOK m b t→GoodR m d (DContent_X m most n) (max most 0) (8-(d:Int)) t
 | d,n,hd8,hn,b,t,hT=>by
  intro s made hS h0 hB
  obtain ⟨hI,h9⟩:=strip_ok hT
  have core:∀ k,2*d≤k→∃ r,contentF m most (DContent_X m most k) (strip t) s (8-(d:Int)) made=some r∧GoodC m d (max most 0) t s made r:=by
   intro k hk
   unfold contentF
   rw [if_neg (inok_ty hI)]
   cases d with
   | zero=>rw [if_pos (by omega)];exact ⟨_,rfl,goodC_err (by decide)⟩
   | succ d =>
    have hwrap:IntKind.i64.wrap (8-((d+1:Nat):Int)+1)=8-(d:Int):=by rw [w64 (by omega) (by omega)];omega
    rw [if_neg (by omega),pay_eq h0 (by omega) (by unfold BB at hB;omega)]
    by_cases hc:max most 0<made+8
    ·rw [if_pos hc];exact ⟨_,rfl,goodC_err (by decide)⟩
    rw [if_neg hc]
    simp only []
    rw [show FU=99999+1 from rfl,wire_in m hI.kind,wire_strip m (inok_ty hI),Option.bind_some]
    rcases wire01 m t with hw|hw
    ·rw [if_pos hw]
     obtain ⟨r,h1,h2,h3⟩:=num_tot hm (d:=d) (M:=max most 0) (made:=made) hT hw s hS (by omega)
     rw [h1,Option.bind_some]
     cases r with
     | error e=>exact ⟨_,rfl,goodC_err (h2 e rfl)⟩
     | ok q=>exact ⟨_,rfl,h3 q.1 q.2 rfl⟩
    ·rw [if_neg (by omega)]
     rcases text_tot s (by omega) with ⟨e,he,ht⟩|⟨q,rest,hsr,ht⟩
     ·rw [ht];exact ⟨_,rfl,goodC_err he⟩
     ·have hsl:s.length=(span q).length+rest.length:=by rw [hsr,List.length_append]
      have hsp:=span_len q
      rw [ht,Option.bind_some]
      simp only []
      obtain ⟨r,h1,h2,h3⟩:=in_tot hm (d:=d) (rec:=DContent_X m most k) (most:=most) (made:=made+8) hT hw hwrap q (by omega) (by omega) (by omega) (by omega) (fun b t hT=>dec_tot hm most d k (by omega) (by omega) b t hT)
      rw [h1,Option.bind_some]
      cases r with
      | error e=>exact ⟨_,rfl,goodC_err (h2 e rfl)⟩
      | ok v =>
       obtain ⟨v,made'⟩:=v
       obtain ⟨a1,a2,a3,a4,a5⟩:=h3 v made' rfl
       refine ⟨_,rfl,fun e' h=>(by cases h),fun v' rest' made2 h=>?_⟩
       cases h
       have e1:encC m (encI m (d+1)) t v=span (encI m (d+1) t v):=enc_txt hw
       have e2:(span (encI m (d+1) t v)).length≤(span q).length:=by
        unfold span
        rw [List.length_append,List.length_append]
        have:=vput_mono a5
        omega
       exact ⟨a1,by simp only [];omega,a3,by simp only [];omega,by simp only [];rw [e1];omega⟩
  by_cases hk:t.kind=9
  ·obtain ⟨n,rfl⟩:∃ k,n=k+2:=⟨n-2,by omega⟩
   have e2:strip t=t.of.getD 0 default:=if_pos hk
   simp only [DContent_X]
   unfold contentF
   rw [if_pos hk,chk_pos (by have:=h9 hk;omega),← e2]
   exact core n (by omega)
  ·obtain ⟨n,rfl⟩:∃ k,n=k+1:=⟨n-1,by omega⟩
   have:=core n (by omega)
   rw [strip_ne hk] at this
   exact this
end Go.Proofs

namespace Go.Proofs
open Go.Sy Go.Lib

def MonoR (rec rec':DRec) (M' deep:Int) (t:Ty):Prop:=∀ s made r,s.length≤4000→0≤made→made+9*(s.length:Int)+8≤BB→made+9*(s.length:Int)+8≤M'→rec t s deep made=some r→r≠.error 13→rec' t s deep made=some r
theorem both {m:List Dcl} {d:Nat} {rec rec':DRec} {M M' deep:Int} {t:Ty} (h1:GoodR m d rec M deep t) (h2:MonoR rec rec' M' deep t) {s:List UInt8} {made:Int} (hS:s.length≤4000) (h0:0≤made) (hB:made+9*(s.length:Int)+8≤BB) (hM:made+9*(s.length:Int)+8≤M') :
  rec t s deep made=some (.error 13)∨(∃ e,rec t s deep made=some (.error e)∧rec' t s deep made=some (.error e))∨∃ v rest made',rec t s deep made=some (.ok (v,rest,made'))∧rec' t s deep made=some (.ok (v,rest,made'))∧0≤made'∧rest.length<s.length∧made'+9*(rest.length:Int)≤made+9*(s.length:Int):=by
 obtain ⟨r,hr,hg⟩:=h1 s made hS h0 hB
 by_cases h13:r=.error 13
 ·left;rw [hr,h13]
 right
 have:=h2 s made r hS h0 hB hM hr h13
 cases r with
 | error e=>left;exact ⟨e,hr,this⟩
 | ok q =>
  obtain ⟨v,rest,made'⟩:=q
  obtain ⟨a1,a2,a3,a4,a5⟩:=hg.2 v rest made' rfl
  have hp:=cont_pos (l:=m) (t:=t) (v:=v) (fit_pos a1)
  right
  exact ⟨v,rest,made',hr,this,by omega,by omega,by omega⟩

theorem listGo_mono {m:List Dcl} {d:Nat} {rec rec':DRec} {M M':Int} {t:Ty} {deep deep':Int} (hd:IntKind.i64.wrap (deep+1)=deep') (h1:GoodR m d rec M deep' (t.of.getD 0 default)) (h2:MonoR rec rec' M' deep' (t.of.getD 0 default)) :
  ∀ (n:Nat) (s:List UInt8) (acc:List Val) (made:Int) (r:Except Int (Val×Int)),s.length≤4000→0≤made→made+9*(s.length:Int)+8≤BB→made+9*(s.length:Int)+8≤M'→listGo rec t deep n s acc made=some r→r≠.error 13→listGo rec' t deep n s acc made=some r
 | 0,s,acc,made,r,_,_,_,_,h,_=>by cases h
 | n+1,s,acc,made,r,hS,h0,hB,hM,h,h13=>by
  by_cases hs:s=[]
  ·subst hs;exact h
  rw [listGo_ne hs,hd] at h ⊢
  obtain ⟨hg,h⟩:=gT h
  rw [chk_pos hg]
  rcases both h1 h2 hS h0 hB hM with e1|⟨e,e1,e2⟩|⟨v,rest,made',e1,e2,e3,e4,e5⟩
  ·rw [e1] at h;cases h;exact absurd rfl h13
  ·rw [e1] at h;rw [e2];exact h
  ·rw [e1] at h;rw [e2]
   exact listGo_mono hd h1 h2 n rest _ made' r (by omega) e3 (by omega) (by omega) h h13

theorem pairsGo_mono {m:List Dcl} {d:Nat} {rec rec':DRec} {M M':Int} {t:Ty} {deep deep':Int} (hd:IntKind.i64.wrap (deep+1)=deep') (h1:∀ i,i<2→GoodR m d rec M deep' (t.of.getD i default)) (h2:∀ i,i<2→MonoR rec rec' M' deep' (t.of.getD i default)) :
  ∀ (n:Nat) (s:List UInt8) (acc:List Val) (made:Int) (r:Except Int (Val×Int)),s.length≤4000→0≤made→made+9*(s.length:Int)+8≤BB→made+9*(s.length:Int)+8≤M'→pairsGo rec t deep n s acc made=some r→r≠.error 13→pairsGo rec' t deep n s acc made=some r
 | 0,s,acc,made,r,_,_,_,_,h,_=>by cases h
 | n+1,s,acc,made,r,hS,h0,hB,hM,h,h13=>by
  by_cases hs:s=[]
  ·subst hs;exact h
  rw [pairsGo_ne hs,hd] at h ⊢
  obtain ⟨hg,h⟩:=gT h
  rw [chk_pos hg]
  rcases both (h1 0 (by omega)) (h2 0 (by omega)) hS h0 hB hM with e1|⟨e,e1,e2⟩|⟨v,rest,made',e1,e2,e3,e4,e5⟩
  ·rw [e1] at h;cases h;exact absurd rfl h13
  ·rw [e1] at h;rw [e2];exact h
  ·rw [e1,Option.bind_some] at h;rw [e2,Option.bind_some]
   simp only [] at h ⊢
   obtain ⟨ok,hok,h⟩:=bT h
   rw [hok,Option.bind_some]
   by_cases hf:ok=false
   ·rw [if_pos hf] at h ⊢;exact h
   rw [if_neg hf] at h ⊢
   rcases both (h1 1 (by omega)) (h2 1 (by omega)) (s:=rest) (made:=made') (by omega) e3 (by omega) (by omega) with e1|⟨e,e1,e2⟩|⟨v2,rest2,made2,e1,e2,e3,e4,e5⟩
   ·rw [e1] at h;cases h;exact absurd rfl h13
   ·rw [e1] at h;rw [e2];exact h
   ·rw [e1] at h;rw [e2]
    exact pairsGo_mono hd h1 h2 n rest2 _ made2 r (by omega) e3 (by omega) (by omega) h h13

theorem fldGo_mono {m:List Dcl} (hm:Sch m) {d:Nat} {rec rec':DRec} {M M':Int} {nm:List UInt8} (hk3:kindL m nm≠3) {deep deep':Int} (hd:IntKind.i64.wrap (deep+1)=deep') (h1:∀ b t,TyOK m b t→GoodR m d rec M deep' t) (h2:∀ b t,TyOK m b t→MonoR rec rec' M' deep' t) :
  ∀ (n:Nat) (s:List UInt8) (last:Int) (tg:List Int) (it:List Val) (made:Int) (r:Except Int (List Int×List Val×Int)),s.length≤4000→0≤made→made+9*(s.length:Int)+8≤BB→made+9*(s.length:Int)+8≤M'→fldGo m rec nm deep n s last tg it made=some r→r≠.error 13→fldGo m rec' nm deep n s last tg it made=some r
 | 0,s,last,tg,it,made,r,_,_,_,_,h,_=>by cases h
 | n+1,s,last,tg,it,made,r,hS,h0,hB,hM,h,h13=>by
  by_cases hs:s=[]
  ·subst hs;exact h
  rw [fldGo_ne hs,hd] at h ⊢
  rcases key_tot m nm s (by omega) with ⟨e,he,hk⟩|⟨g,w,rest,g1,g2,hw,hsr,hk⟩
  ·rw [hk] at h ⊢;exact h
  rw [hk,Option.bind_some] at h ⊢
  simp only [] at h ⊢
  have hv:=vput_pos (2*g+w).toNat
  have hsl:s.length=(vput (2*g+w).toNat).length+rest.length:=by rw [hsr,List.length_append]
  by_cases hl:g≤last
  ·rw [if_pos hl] at h ⊢;exact h
  rw [if_neg hl] at h ⊢
  cases hh:hasJ (rowsU m nm) g with
  | false =>
   rw [hh,if_pos rfl] at h
   rw [if_pos rfl]
   obtain ⟨q,hq,h⟩:=bT h
   rw [hq,Option.bind_some]
   by_cases hz:q.2≠0
   ·rw [if_pos hz] at h ⊢;exact h
   rw [if_neg hz] at h ⊢
   obtain ⟨hg,h⟩:=gT h
   rw [chk_pos hg]
   have hdl:(rest.drop q.1.toNat).length≤rest.length:=by rw [List.length_drop];omega
   exact fldGo_mono hm hk3 hd h1 h2 n _ g tg it made r (by omega) h0 (by omega) (by omega) h h13
  | true =>
   obtain ⟨hT,_,_⟩:=row_ty hm hk3 hh
   rw [hh,if_neg (by decide)] at h
   rw [if_neg (by decide)]
   obtain ⟨w2,hw2,h⟩:=bT h
   rw [hw2,Option.bind_some]
   by_cases hz:w≠w2
   ·rw [if_pos hz] at h ⊢;exact h
   rw [if_neg hz] at h ⊢
   rcases both (h1 false _ hT) (h2 false _ hT) (s:=rest) (made:=made) (by omega) h0 (by omega) (by omega) with e1|⟨e,e1,e2⟩|⟨v,rest2,made',e1,e2,e3,e4,e5⟩
   ·rw [e1] at h;cases h;exact absurd rfl h13
   ·rw [e1] at h;rw [e2];exact h
   ·rw [e1] at h;rw [e2]
    simp only [Option.bind_some] at h ⊢
    obtain ⟨hg,h⟩:=gT h
    rw [chk_pos hg]
    exact fldGo_mono hm hk3 hd h1 h2 n rest2 g _ _ made' r (by omega) e3 (by omega) (by omega) h h13

theorem fields_mono {m:List Dcl} (hm:Sch m) {d:Nat} {rec rec':DRec} {M M':Int} {nm:List UInt8} (hk3:kindL m nm≠3) {deep deep':Int} (hd:IntKind.i64.wrap (deep+1)=deep') (h1:∀ b t,TyOK m b t→GoodR m d rec M deep' t) (h2:∀ b t,TyOK m b t→MonoR rec rec' M' deep' t)
  {s:List UInt8} {made:Int} {r:Except Int (Val×Int)} (hS:s.length≤4000) (h0:0≤made) (hB:made+9*(s.length:Int)+8≤BB) (hM:made+9*(s.length:Int)+8≤M') (h:fieldsF m rec nm s deep made=some r) (h13:r≠.error 13):fieldsF m rec' nm s deep made=some r:=by
 unfold fieldsF at h ⊢
 obtain ⟨q,hq,h⟩:=bT h
 have hq13:q≠.error 13:=fun e=>by rw [e] at h;cases h;exact h13 rfl
 rw [fldGo_mono hm hk3 hd h1 h2 _ s 0 [] [] made q hS h0 hB hM hq hq13]
 exact h
theorem union_mono {m:List Dcl} (hm:Sch m) {d:Nat} {rec rec':DRec} {M M':Int} {nm:List UInt8} (hk3:kindL m nm≠3) {deep deep':Int} (hd:IntKind.i64.wrap (deep+1)=deep') (h1:∀ b t,TyOK m b t→GoodR m d rec M deep' t) (h2:∀ b t,TyOK m b t→MonoR rec rec' M' deep' t)
  {s:List UInt8} {made:Int} {r:Except Int (Val×Int)} (hS:s.length≤4000) (h0:0≤made) (hB:made+9*(s.length:Int)+8≤BB) (hM:made+9*(s.length:Int)+8≤M') (h:unionF m rec nm s deep made=some r) (h13:r≠.error 13):unionF m rec' nm s deep made=some r:=by
 unfold unionF at h ⊢
 by_cases hs:s=[]
 ·rw [if_pos hs] at h ⊢;exact h
 rw [if_neg hs] at h ⊢
 rcases key_tot m nm s (by omega) with ⟨e,he,hk⟩|⟨g,w,rest,g1,g2,hw,hsr,hk⟩
 ·rw [hk] at h ⊢;exact h
 rw [hk,Option.bind_some] at h ⊢
 simp only [] at h ⊢
 have hv:=vput_pos (2*g+w).toNat
 have hsl:s.length=(vput (2*g+w).toNat).length+rest.length:=by rw [hsr,List.length_append]
 cases hh:hasJ (rowsU m nm) g with
 | false=>rw [hh] at h;exact h
 | true =>
  obtain ⟨hT,_,_⟩:=row_ty hm hk3 hh
  rw [hh,if_neg (by decide)] at h
  rw [if_neg (by decide)]
  obtain ⟨w2,hw2,h⟩:=bT h
  rw [hw2,Option.bind_some]
  by_cases hz:w≠w2
  ·rw [if_pos hz] at h ⊢;exact h
  rw [if_neg hz,hd] at h ⊢
  rcases both (h1 false _ hT) (h2 false _ hT) (s:=rest) (made:=made) (by omega) h0 (by omega) (by omega) with e1|⟨e,e1,e2⟩|⟨v,rest2,made',e1,e2,e3,e4,e5⟩
  ·rw [e1] at h;cases h;exact absurd rfl h13
  ·rw [e1] at h;rw [e2];exact h
  ·rw [e1] at h;rw [e2];exact h

theorem pay_mono {most most' made k:Int} {r:Int} (h0:0≤made) (hk:0≤k) (hB:made+k≤4611686018427387904) (hM:made+k≤max most' 0) (h:payF most made k=.ok r):payF most' made k=.ok r:=by
 rw [pay_eq h0 hk hB] at h ⊢
 split at h
 ·cases h
 ·rw [if_neg (by omega)];exact h

theorem in_mono {m:List Dcl} (hm:Sch m) {d:Nat} {rec rec':DRec} {most most':Int} {u:Ty} (hI:InOK m u) (hnw:¬ (u.kind=1∨u.kind=2∨u.kind=3∨(u.kind=6∧kindL m u.name=3))) {deep deep':Int} (hd:IntKind.i64.wrap (deep+1)=deep') (h1:∀ b t,TyOK m b t→GoodR m d rec (max most 0) deep' t) (h2:∀ b t,TyOK m b t→MonoR rec rec' (max most' 0) deep' t)
  {s:List UInt8} {made:Int} {r:Except Int (Val×Int)} (hS:s.length≤4000) (h0:0≤made) (hB:made+9*(s.length:Int)+8≤BB) (hM:made+9*(s.length:Int)+8≤max most' 0) (h:inF m most rec u s deep made=some r) (h13:r≠.error 13):inF m most' rec' u s deep made=some r:=by
 have hk:=hI.kind
 unfold inF at h ⊢
 by_cases h45:u.kind=4∨u.kind=5
 ·rw [if_pos h45] at h ⊢
  cases hp:payF most made (s.length:Nat) with
  | error e =>
   rw [hp] at h
   cases h
   rw [pay_eq h0 (by omega) (by unfold BB at hB;omega)] at hp
   split at hp
   ·cases hp;exact absurd rfl h13
   ·cases hp
  | ok q =>
   rw [hp] at h
   rw [pay_mono h0 (by omega) (by unfold BB at hB;omega) (by omega) hp]
   exact h
 rw [if_neg h45] at h ⊢
 by_cases h7:u.kind=7
 ·rw [if_pos h7] at h ⊢
  have hl:=hI.len.1 h7
  exact listGo_mono hd (h1 true _ (hI.sub 0 (by omega))) (h2 true _ (hI.sub 0 (by omega))) _ s [] made r hS h0 hB hM h h13
 rw [if_neg h7] at h ⊢
 by_cases h8:u.kind=8
 ·rw [if_pos h8] at h ⊢
  have hl:=hI.len.2 h8
  exact pairsGo_mono hd (fun i hi=>h1 true _ (hI.sub i (by omega))) (fun i hi=>h2 true _ (hI.sub i (by omega))) _ s [] made r hS h0 hB hM h h13
 rw [if_neg h8,DKind_F,Option.bind_some] at h ⊢
 have hs:=hI.six (by omega)
 by_cases hk2:kindL m u.name=2
 ·rw [if_pos hk2] at h ⊢
  exact union_mono hm (by omega) hd h1 h2 hS h0 hB hM h h13
 ·rw [if_neg hk2] at h ⊢
  exact fields_mono hm (by omega) hd h1 h2 hS h0 hB hM h h13

theorem content_opt {m:List Dcl} {most:Int} {rec:DRec} {t:Ty} {s:List UInt8} {deep made:Int} (h9:t.kind=9) (hl:0<t.of.length):contentF m most rec t s deep made=rec (t.of.getD 0 default) s deep made:=by
 unfold contentF
 rw [if_pos h9,chk_pos hl]
theorem DC_succ (m:List Dcl) (most:Int) (n:Nat):DContent_X m most (n+1)=contentF m most (DContent_X m most n):=rfl
theorem wire_FU {m:List Dcl} {t:Ty} (hI:InOK m (strip t)):DWire_X m FU (strip t)=some (wireT m t):=by
 rw [show FU=99999+1 from rfl,wire_in m hI.kind,wire_strip m (inok_ty hI)]
theorem dec_mono_step {m:List Dcl} (hm:Sch m) (most most':Int) (d n:Nat) (hd8:d≤8) (hn:2*d+2≤n) (b:Bool) (t:Ty) (hT:TyOK m b t) (IH:∀ d',d=d'+1→∀ k,2*d'+2≤k→∀ b t,TyOK m b t→MonoR (DContent_X m most k) (DContent_X m most' k) (max most' 0) (8-(d':Int)) t):MonoR (DContent_X m most n) (DContent_X m most' n) (max most' 0) (8-(d:Int)) t:=by
 intro s made r hS h0 hB hM h h13
 obtain ⟨hI,h9⟩:=strip_ok hT
 have core:∀ k,2*d≤k→contentF m most (DContent_X m most k) (strip t) s (8-(d:Int)) made=some r→contentF m most' (DContent_X m most' k) (strip t) s (8-(d:Int)) made=some r:=by
  intro k hk h
  unfold contentF at h ⊢
  rw [if_neg (inok_ty hI)] at h ⊢
  cases d with
  | zero=>rw [if_pos (by omega)] at h ⊢;exact h
  | succ d =>
   have hwrap:IntKind.i64.wrap (8-((d+1:Nat):Int)+1)=8-(d:Int):=by rw [w64 (by omega) (by omega)];omega
   rw [if_neg (by omega)] at h ⊢
   cases hp:payF most made 8 with
   | error e =>
    rw [hp] at h
    cases h
    rw [pay_eq h0 (by omega) (by unfold BB at hB;omega)] at hp
    split at hp
    ·cases hp;exact absurd rfl h13
    ·cases hp
   | ok q =>
    have hq:q=made+8:=by
     rw [pay_eq h0 (by omega) (by unfold BB at hB;omega)] at hp
     split at hp<;>cases hp
     rfl
    rw [hp] at h
    rw [pay_mono h0 (by omega) (by unfold BB at hB;omega) (by omega) hp]
    simp only [] at h ⊢
    rw [wire_FU hI,Option.bind_some] at h ⊢
    by_cases hw:wireT m t=0
    ·rw [if_pos hw] at h ⊢;exact h
    rw [if_neg hw] at h ⊢
    rcases text_tot s (by omega) with ⟨e,he,ht⟩|⟨a,rest,hsr,ht⟩
    ·rw [ht,Option.bind_some] at h ⊢
     simp only [] at h ⊢
     exact h
    ·have hsl:s.length=(span a).length+rest.length:=by rw [hsr,List.length_append]
     have hsp:=span_len a
     rw [ht,Option.bind_some] at h ⊢
     simp only [] at h ⊢
     obtain ⟨v,hv,h⟩:=bT h
     have hv13:v≠.error 13:=fun e=>by rw [e] at h;cases h;exact h13 rfl
     rw [in_mono hm (d:=d) hI (fun hc=>hw (wire_num hc)) hwrap (fun b t hT=>dec_tot hm most d k (by omega) (by omega) b t hT) (IH d rfl k (by omega)) (by omega) (by omega) (by omega) (by omega) hv hv13,Option.bind_some]
     exact h
 by_cases hk:t.kind=9
 ·obtain ⟨n,rfl⟩:∃ k,n=k+2:=⟨n-2,by omega⟩
  have e2:strip t=t.of.getD 0 default:=if_pos hk
  have hl:=h9 hk
  rw [DC_succ,content_opt hk (by omega),← e2,DC_succ] at h ⊢
  exact core n (by omega) h
 ·obtain ⟨n,rfl⟩:∃ k,n=k+1:=⟨n-1,by omega⟩
  have:=core n (by omega)
  rw [strip_ne hk] at this
  rw [DC_succ] at h ⊢
  exact this h
theorem dec_mono {m:List Dcl} (hm:Sch m) (most most':Int) (d:Nat):∀ (n:Nat),d≤8→2*d+2≤n→∀ b t,TyOK m b t→MonoR (DContent_X m most n) (DContent_X m most' n) (max most' 0) (8-(d:Int)) t:=by
 induction d with
 | zero=>exact fun n h1 h2 b t hT=>dec_mono_step hm most most' 0 n h1 h2 b t hT (fun d' h=>by omega)
 | succ d ih=>exact fun n h1 h2 b t hT=>dec_mono_step hm most most' (d+1) n h1 h2 b t hT (fun d' h k hk=>by
  obtain rfl:d'=d:=by omega
  exact ih k (by omega) hk)
end Go.Proofs

namespace Go.Sy
open Go.RowKit
section
variable {P:Program} {T:Tab} {X:Ctx P T} {n:Nat} {e:Env} {st:St} {a:Act} {w:World} {ops:Array Oper} {K:St→Prop}

abbrev Ctx.later (X:Ctx P T) (d:Deferred) (pan:List PanicEntry→Act→World→Prop):Ctx P T:=⟨X.ok,X.wide,X.w0,X.G0,X.bs,X.μ0,pan,d::X.dfr⟩

theorem Rel.later (r:Rel X n e st a w) (d:Deferred) (pan:List PanicEntry→Act→World→Prop):Rel (X.later d pan) n e st { a with defers:=d::a.defers } w :=
 { r with defers:=by show d::a.defers=d::X.dfr;rw [r.defers],heap:=r.heap }

theorem run_deferV {x:Operand} {tys:Array TypeId} {ty:TypeId} {pos:String} {aft:Array Edge} {f:Fn} {vs:Array Value} (ρ:Operand→Value) (h:ρ x=.func f #[] vs) (w:World) :
  (execOp ρ ⟨none,.defer ⟨.value x,#[],tys⟩,ty,pos,aft,none⟩).run P w=.ok (.defer { target:=.fn f vs,args:=#[] }) w:=by
 simp [execOp,resolve,h,Deferred.ofValue]
theorem wp_deferF {id d:Nat} {g:FuncId} {caps:Array Operand} {cavs:List AV} {tys:Array TypeId} {ty ty2:TypeId} {pos pos2:String} {aft aft2:Array Edge} {Q:Exit→Act→World→Prop} (r:Rel X n e st a w)
  (ha:opds st.s caps.toList=some cavs) (himm:AV.imm.immL cavs=true) (hd:Nat.blt d n=true)
  (kk:∀ (vs:Array Value) (a':Act),RepIT e.G cavs vs.toList→(∀ pan,Rel (X.later { target:=.fn (.func g) vs,args:=#[] } pan) n e ⟨(d,.p (cloRP g cavs))::st.s,st.c⟩ a' w)→Q .normal a' w) :
  (Code.region id #[⟨some d,.makeFunc (.func g) #[] caps,ty,pos,aft,none⟩,⟨none,.defer ⟨.value (.tmp d),#[],tys⟩,ty2,pos2,aft2,none⟩] false).wp P Q a w:=by
 refine wp_region_lit (l:=[_,_]) ?_
 have h1:=RepT.toI cavs himm (opds_sound r ha)
 unfold wpList
 rw [if_pos (by simp [Region.wanted])]
 refine .inl ?_
 have hrun:(execOp a.eval ⟨some d,.makeFunc (.func g) #[] caps,ty,pos,aft,none⟩).run P w=.ok (.value (.func (.func g) #[] (caps.map a.eval))) w:=by
  simp [execOp,Instr.makeFunc]
 unfold Oper.wp
 rw [hrun]
 show wpList _ _ _ _ (a.put (some d) (.func (.func g) #[] (caps.map a.eval))) w
 have r2:Rel X n e ⟨(d,.p (cloRP g cavs))::st.s,st.c⟩ (a.put (some d) (.func (.func g) #[] (caps.map a.eval))) w:=r.put hd (by simp only [Rep];exact ⟨_,rfl,by rw [map_eval];exact h1⟩)
 have hev:(a.put (some d) (.func (.func g) #[] (caps.map a.eval))).eval (.tmp d)=.func (.func g) #[] (caps.map a.eval):=by
  have r3:Rel X n e ⟨(d,.v (.func (.func g) #[] (caps.map a.eval)))::st.s,st.c⟩ (a.put (some d) (.func (.func g) #[] (caps.map a.eval))) w:=r.put hd (by simp only [Rep])
  obtain ⟨v,h2,h3⟩:=r3.slots d (.v (.func (.func g) #[] (caps.map a.eval))) (by rw [get_cons,if_pos rfl])
  simp only [Rep] at h3
  subst h3
  simp [Act.eval,Array.getD_eq_getD_getElem?,h2]
 unfold wpList
 rw [if_pos (by simp [Region.wanted])]
 refine .inl ?_
 have hrun2:=run_deferV (P:=P) (x:=.tmp d) (tys:=tys) (ty:=ty2) (pos:=pos2) (aft:=aft2) _ hev w
 unfold Oper.wp
 rw [hrun2,Oper.upon_defer]
 exact wpList_nil (kk (caps.map a.eval) _ (by rw [map_eval];exact h1) (fun pan=>r2.later _ pan))

theorem AbsOK.tail {G:IM} {w:World} {A:Abs} {cs:List Abs} (h:AbsOK G w (A::cs)):AbsOK G w cs:=by
 obtain ⟨h1,h2,h3⟩:=h
 simp only [blocks,List.flatMap_cons] at h2 h3 ⊢
 exact ⟨fun B hB=>h1 B (List.mem_cons_of_mem _ hB),(List.nodup_append.1 h2).2.1,fun b hb=>h3 b (List.mem_append.2 (.inr hb))⟩
theorem TrA.frame {G G':IM} {w w':World} {A:Abs} {cs cs':List Abs} (h:TrA G w cs G' w' cs') (hA:AbsOK G w (A::cs)):TrA G w (A::cs) G' w' (A::cs'):=by
 obtain ⟨a1,a2,a3,a4,a5,a6,a7,a8,a9,a10⟩:=h
 obtain ⟨h1,h2,h3⟩:=hA
 have hbA:∀ b,b∈A.bs→b<w.heap.size∧G.free b∧b∉blocks cs:=fun b hb=>by
  simp only [blocks,List.flatMap_cons] at h2 h3
  have:=h3 b (List.mem_append.2 (.inl hb))
  exact ⟨this.1,this.2,fun hin=>(List.nodup_append.1 h2).2.2 b hb b hin rfl⟩
 have hnew:∀ b,b∈A.bs→w'.heap[b]?=w.heap[b]?:=fun b hb=>by
  obtain ⟨q1,q2,q3⟩:=hbA b hb
  exact a10 b q1 q3 (IM.free_still q2)
 refine ⟨a1,⟨fun b o v hv=>(a2.1 b o v hv).imp id (Or.imp id (fun h=>by simp only [blocks,List.flatMap_cons];exact List.mem_append.2 (.inr h))),fun b x hx=>(a2.2 b x hx).imp id (Or.imp id (fun h=>by simp only [blocks,List.flatMap_cons];exact List.mem_append.2 (.inr h)))⟩,a3,⟨fun B hB=>?_,?_,fun b hb=>?_⟩,fun b hb=>?_,a6,a7,a8,a9,fun k hk hn hs=>a10 k hk (fun h=>hn (by simp only [blocks,List.flatMap_cons];exact List.mem_append.2 (.inr h))) hs⟩
 ·rcases List.mem_cons.1 hB with rfl|hB
  ·exact B.keep a1 hnew (h1 B (by simp))
  ·exact a4.1 B hB
 ·simp only [blocks,List.flatMap_cons] at h2 ⊢
  refine List.nodup_append.2 ⟨(List.nodup_append.1 h2).1,a4.2.1,fun b hb b' hb' e=>?_⟩
  subst e
  obtain ⟨q1,q2,q3⟩:=hbA b hb
  rcases a5 b hb' with h|h
  ·omega
  ·exact q3 h
 ·simp only [blocks,List.flatMap_cons] at hb
  rcases List.mem_append.1 hb with hb|hb
  ·obtain ⟨q1,q2,q3⟩:=hbA b hb
   exact ⟨by omega,a2.free q1 q3 q2⟩
  ·exact a4.2.2 b hb
 ·simp only [blocks,List.flatMap_cons] at hb ⊢
  rcases List.mem_append.1 hb with hb|hb
  ·exact .inr (List.mem_append.2 (.inl hb))
  ·exact (a5 b hb).imp id (fun h=>List.mem_append.2 (.inr h))
theorem TrA.head {G G':IM} {w w':World} {A:Abs} {cs cs':List Abs} (h:TrA G w cs G' w' (A::cs')):TrA G w cs G' w' [A]:=by
 obtain ⟨a1,a2,a3,a4,a5,a6,a7,a8,a9,a10⟩:=h
 simp only [blocks,List.flatMap_cons] at a5
 obtain ⟨h1,h2,h3⟩:=a4
 simp only [blocks,List.flatMap_cons] at h2 h3
 refine ⟨a1,a2,a3,⟨fun B hB=>?_,?_,fun b hb=>?_⟩,fun b hb=>?_,a6,a7,a8,a9,a10⟩
 ·rw [List.mem_singleton] at hB;subst hB;exact h1 B (by simp)
 ·simp only [blocks,List.flatMap_cons,List.flatMap_nil,List.append_nil];exact (List.nodup_append.1 h2).1
 ·simp only [blocks,List.flatMap_cons,List.flatMap_nil,List.append_nil] at hb;exact h3 b (List.mem_append.2 (.inl hb))
 ·simp only [blocks,List.flatMap_cons,List.flatMap_nil,List.append_nil] at hb;exact a5 b (List.mem_append.2 (.inl hb))

theorem wpS_recover {id d1 d2:Nat} {tys:Array TypeId} {ty ty2:TypeId} {pos pos2:String} {aft aft2:Array Edge} {Q:Exit→Act→List Frame→World→Prop} {cs cs':List Frame} {v:Value}
  (hrec:recoverD cs=some (v,cs')∨(recoverD cs=none∧v=.nilIface∧cs'=cs)) (hd:d1<a.tmps.size) (h:Q .normal ((a.put (some d1) v).put (some d2) v) cs' w) :
  (Code.region id #[⟨some d1,.call ⟨.builtin .recover,#[],tys⟩,ty,pos,aft,none⟩,⟨some d2,.assign (.tmp d1),ty2,pos2,aft2,none⟩] false).wpS P Q a cs w:=by
 refine wpS_region ?_
 have hev:(a.put (some d1) v).eval (.tmp d1)=v:=by simp [Act.eval,Act.put,Array.getD_eq_getD_getElem?,hd]
 have h1:∀ ρ:Operand→Value,(execOp ρ ⟨some d1,.call ⟨.builtin .recover,#[],tys⟩,ty,pos,aft,none⟩).run P w=.ok .recover w:=fun ρ=>by simp [execOp,go_sem]
 have h2:(execOp (a.put (some d1) v).eval ⟨some d2,.assign (.tmp d1),ty2,pos2,aft2,none⟩).run P w=.ok (.value v) w:=by simp [execOp,hev]
 show wpOpsS P _ Q [0,1] a cs w
 unfold wpOpsS
 simp only [List.getElem?_toArray,List.getElem?_cons_zero,Region.wanted,if_true]
 rw [h1]
 rcases hrec with hr|⟨hr,rfl,rfl⟩
 ·simp only [hr]
  unfold wpOpsS
  simp only [List.getElem?_toArray,List.getElem?_cons_succ,List.getElem?_cons_zero,Region.wanted,if_true]
  rw [h2]
  simp only [Oper.upon_value]
  unfold wpOpsS
  exact h
 ·simp only [hr]
  unfold wpOpsS
  simp only [List.getElem?_toArray,List.getElem?_cons_succ,List.getElem?_cons_zero,Region.wanted,if_true]
  rw [h2]
  simp only [Oper.upon_value]
  unfold wpOpsS
  exact h

theorem X_assertOK {p:Pl} {t:TypeId} {dsc:TypeDesc} {x:Operand} {y:AV} {d:Option Nat} {xt ty:TypeId} {pos:String} {aft:Array Edge} {gd:Option (Nat×Bool)} {j:Nat} {Si:List (Nat×AV)} {c:List Ch}
  (hu:P.underlying t=some dsc) (hni:∀ ms,dsc≠.interface ms)
  (hg:guardA ops ⟨Si,c⟩ ⟨d,.typeAssert x xt t true,ty,pos,aft,gd⟩=some true) (hx:opd Si x=some (.ifc t y)) (hd:dstOK n d=true) :
  StepX X n ops p Si c c j ⟨d,.typeAssert x xt t true,ty,pos,aft,gd⟩ (.tup [y,B true]) :=
 StepX.val hg hd (fun e a w S r r'=>by
  have h1:=opd_sound r' hx
  simp only [Rep] at h1
  obtain ⟨v,hv,hy⟩:=h1
  refine ⟨.tuple #[v,.bool true],w,e,?_,r,by simp only [Rep,RepT];exact ⟨#[v,.bool true],rfl,v,_,rfl,hy,_,_,rfl,rfl,rfl⟩⟩
  have hun:(underlying t:Sem TypeDesc).run P w=.ok dsc w:=by simp [underlying,hu]
  simp only [execOp,hv,Instr.typeAssert,Sem.run_bind,hun,Result.andThen_ok]
  cases dsc<;>first|(simp;done)|exact absurd rfl (hni _))
end
end Go.Sy

namespace Go.Proofs
open Go.Sy Go.Lib

def zvA:List AV:=[I64 0,I64 0,.s [],NIL,NIL]
abbrev resC3 (b8 b9 b10:Nat) (c8:List AV) (c9 c10:Int):List Abs:=[boxA b8 26 c8,boxA b9 3 [I64 c9],boxA b10 35 [I64 c10]]

theorem clo_ret (b8 b9 b10:Nat) (w:World) :
  CallsD Tryz.prog 21 #[.pointer (some ⟨b8,0,none⟩),.pointer (some ⟨b9,0,none⟩),.pointer (some ⟨b10,0,none⟩)] .returning w fun en u' w'=>(∃ v,en=.returned v)∧u'=.returning∧w'=w:=by
 refine callsD_of_wpS Tryz.func21 rfl fun c₀ cs hu=>?_
 have hn:Tryz.f21.ntmps=20:=by kernel_rfl
 have hnil:∀ w:World,(binOp BinOp.eql 20 .nilIface .nilIface).run Tryz.prog w=.ok (.bool true) w:=fun _=>by kernel_rfl
 apply wpS_seq
 refine wpS_recover (v:=.nilIface) (.inr ⟨by simp [recoverD,hu],rfl,rfl⟩) (by rw [hn];simp) ?_
 rw [hn]
 show Code.wpS _ _ _ _ _ _
 apply wpS_seq
 apply wpS_seq
 apply wpS_region
 simp [wpOpsS,go_sem,Exit.thenS,hnil,Act.put,Act.eval]
 refine wpS_cond (t:=true) (by simp [Act.eval,Array.replicate]) ?_
 simp only [if_true]
 refine wpS_of_wp (wp_ret ?_)
 cases c₀
 simp_all [bodyPostS,results,Exit.thenS]

def P5c:Pl:=⟨[[],[],[1],[0],[0,3],[0,1,2,3,4]],[3,4,5],[],[]⟩
def C5c (b8 b9 b10:Nat) (c8:List AV) (c9 c10 e:Int) (l3 l4 l5:Bool):List Ch :=
 [.abs (boxA b8 26 (bif l3 then zvA else c8)),.abs (boxA b9 3 (bif l4 then [I64 0] else [I64 c9])),.abs (boxA b10 35 (bif l5 then [I64 e] else [I64 c10]))]
theorem clo_pan (b8 b9 b10:Nat) (x0 x1 x2 x3 x4:AV) (c9 c10 ef:Int) (G:IM) (w:World) (him:ImOK G w) (hcs:AbsOK G w (resC3 b8 b9 b10 [x0,x1,x2,x3,x4] c9 c10)) (v:Value) (hv:RepI G (errA ef) v) :
  CallsD Tryz.prog 21 #[.pointer (some ⟨b8,0,none⟩),.pointer (some ⟨b9,0,none⟩),.pointer (some ⟨b10,0,none⟩)] (.panicking [{ v:=v,recovered:=false }]) w fun en u' w'=>(∃ r,en=.returned r)∧u'=.panicking [{ v:=v,recovered:=true }] ∧
   ∃ G',TrA G w (resC3 b8 b9 b10 [x0,x1,x2,x3,x4] c9 c10) G' w' (resC3 b8 b9 b10 zvA 0 ef):=by
 refine callsD_of_wpS Tryz.func21 rfl fun c₀ cs hu=>?_
 have hn:Tryz.f21.ntmps=20:=by kernel_rfl
 apply wpS_seq
 refine wpS_recover (v:=v) (cs':={ c₀ with mode:=.panicking [{ v:=v,recovered:=true }] }::cs) (.inl (by simp [recoverD,hu])) (by rw [hn];simp) ?_
 rw [hn]
 show Code.wpS _ _ _ _ _ _
 refine wpS_of_wp ?_
 let X:Ctx Tryz.prog Tryz.tab:=⟨Tryz.tabOK,Tryz.wide_,w,G,blocks (resC3 b8 b9 b10 [x0,x1,x2,x3,x4] c9 c10),fun _=>0,fun _ _ _=>False,[]⟩
 let e:Env:=⟨G,fun _=>0,fun _=>undef⟩
 have hheap:HeapOK X e w ((resC3 b8 b9 b10 [x0,x1,x2,x3,x4] c9 c10).map Ch.abs):=by
  refine ⟨(resC3 b8 b9 b10 [x0,x1,x2,x3,x4] c9 c10).map (fun A=>(Ch.abs A,A.bs)),by simp [Function.comp_def],?_,by rw [flat_abs];exact hcs.2.1,?_⟩
  ·intro p hp
   obtain ⟨A,hA,rfl⟩:=List.mem_map.1 hp
   exact ⟨rfl,hcs.1 A hA⟩
  ·rw [flat_abs]
   intro b hb
   exact ⟨(hcs.2.2 b hb).1,.inr hb,(hcs.2.2 b hb).2⟩
 have r0:Rel X 20 e ⟨enumA 0 [PT b8 0,PT b9 0,PT b10 0],(resC3 b8 b9 b10 [x0,x1,x2,x3,x4] c9 c10).map Ch.abs⟩ { tmps:=#[.pointer (some ⟨b8,0,none⟩),.pointer (some ⟨b9,0,none⟩),.pointer (some ⟨b10,0,none⟩)]++Array.replicate (20-3) undef,defers:=[] } w :=
  Rel.enter (cargs:=[.pointer (some ⟨b8,0,none⟩),.pointer (some ⟨b9,0,none⟩),.pointer (some ⟨b10,0,none⟩)]) rfl rfl him (RepIT.toRep (e:=e) [PT b8 0,PT b9 0,PT b10 0] (by simp only [RepIT,RepI];exact ⟨_,_,rfl,rfl,_,_,rfl,rfl,_,_,rfl,rfl,rfl⟩)) (by simp) hheap rfl
 have hv':Rep e (errA ef) v:=RepI.toRep (e:=e) (errA ef) hv
 have r2:=(r0.put (d:=6) (x:=errA ef) (v:=v) rfl hv').put (d:=3) (x:=errA ef) (v:=v) rfl hv'
 refine Code.wp_mono (fun ex a' w' hc=>?_) ((?_:SymC X 20 _ _ (EndsX Tryz.tab #[] (fun r cs'=>r=.tup []∧cs'=resC3 b8 b9 b10 zvA 0 ef))) e _ w r2)
 ·have fin:∀ (e':Env) (st':St),Rel X 20 e' st' a' w'→(∃ r cs1 rest,resA Tryz.tab st' (#[]:Array ResultVar).toList=some r∧st'.c.Perm (cs1.map Ch.abs++rest)∧r.imm=true∧r=.tup []∧cs1=resC3 b8 b9 b10 zvA 0 ef) →
    a'.defers=[]∧∃ u',{ c₀ with mode:=.panicking [{ v:=v,recovered:=true }] }::cs={ c₀ with mode:=u' }::cs∧∃ v1,(results Tryz.f21 a'.tmps).run Tryz.prog w'=.ok v1 w'∧((∃ r,Ending.returned v1=.returned r)∧u'=.panicking [{ v:=v,recovered:=true }] ∧
   ∃ G',TrA G w (resC3 b8 b9 b10 [x0,x1,x2,x3,x4] c9 c10) G' w' (resC3 b8 b9 b10 zvA 0 ef)):=by
   rintro e' st' hr ⟨x,cs',rest,h1,hk,h2,h3,rfl⟩
   exact ⟨hr.defers,_,rfl,.tuple #[],results_none rfl _ _ _,⟨_,rfl⟩,rfl,e'.G,hr.trA hk rfl⟩
  cases ex with
  | normal=>obtain ⟨e',st',h1,h2⟩:=hc;exact fin e' st' h1 h2
  | ret=>obtain ⟨e',st',h1,h2⟩:=hc;exact fin e' st' h1 h2
  | exit id=>obtain ⟨e',st',h1,h2⟩:=hc;exact h2.elim
  | goto l=>obtain ⟨e',st',h1,h2⟩:=hc;exact h2.elim
  | panic ch=>exact hc.2.elim
  | outgrown=>exact hc.elim
 repeat (first|refine sc rfl ?_|refine so rfl ?_)
 refine O_Xd (X_ifcnil Tryz.underlying20 rfl rfl rfl) ?_
 repeat refine so rfl ?_
 refine C_false rfl rfl ?_
 repeat (first|refine sc rfl ?_|refine so rfl ?_)
 refine O_Xd (X_assertOK Tryz.underlying68 (fun ms h=>by cases h) rfl rfl rfl) ?_
 repeat (first|refine sc rfl ?_|refine so rfl ?_)
 refine C_le _ (Le.freezebox 4 rfl rfl rfl) ?_
 repeat refine sc rfl ?_
 refine C_false rfl rfl ?_
 repeat refine sc rfl ?_
 refine C_le _ (Le.sub (s2:=⟨[(0,PT b8 0),(1,PT b9 0),(2,PT b10 0),(4,.cp [I64 ef])],(resC3 b8 b9 b10 [x0,x1,x2,x3,x4] c9 c10).map Ch.abs⟩) [1000000,1000000,1000000] ⟨rfl,rfl,rfl,rfl,trivial⟩ rfl) ?_
 refine C_drawM P5c (fun L=>(C5c b8 b9 b10 [x0,x1,x2,x3,x4] c9 c10 ef (L 3) (L 4) (L 5))) rfl (by kernel_rfl) (fun L L' h=>by show (C5c b8 b9 b10 [x0,x1,x2,x3,x4] c9 c10 ef (L 3) (L 4) (L 5))=(C5c b8 b9 b10 [x0,x1,x2,x3,x4] c9 c10 ef (L' 3) (L' 4) (L' 5));rw [h 3 (by decide),h 4 (by decide),h 5 (by decide)]) rfl ?_
 refine SM (.agg zvA) rfl (fun L h1 h2 h3=>?_) ?_
 ·show StepX _ _ _ _ _ (C5c b8 b9 b10 [x0,x1,x2,x3,x4] c9 c10 ef (L 3) (L 4) (L 5)) (C5c b8 b9 b10 [x0,x1,x2,x3,x4] c9 c10 ef (L 3) (L 4) (L 5)) _ _ _
  exact X_stillX rfl rfl rfl trivial
 refine sm rfl ⟨trivial,?_⟩
 refine sm rfl ⟨trivial,?_⟩
 refine SM .bad rfl (fun L h1 h2 h3=>?_) ?_
 ·show StepX _ _ _ _ _ (C5c b8 b9 b10 [x0,x1,x2,x3,x4] c9 c10 ef (L 3) (L 4) (L 5)) (C5c b8 b9 b10 [x0,x1,x2,x3,x4] c9 c10 ef true (L 4) (L 5)) _ _ _
  rw [show L 3=false from h3]
  exact X_storeB 0 (writesN_box (cells:=[x0,x1,x2,x3,x4]) (new:=zvA) (o:=0) (by show 0+5≤5;decide)) rfl rfl rfl rfl rfl rfl rfl
 refine SM .bad rfl (fun L h1 h2 h3=>?_) ?_
 ·show StepX _ _ _ _ _ (C5c b8 b9 b10 [x0,x1,x2,x3,x4] c9 c10 ef (L 3) (L 4) (L 5)) (C5c b8 b9 b10 [x0,x1,x2,x3,x4] c9 c10 ef (L 3) true (L 5)) _ _ _
  rw [show L 4=false from h3]
  exact (X_storeP 1 (writes_box (cells:=[I64 c9]) (o:=0) Nat.one_pos) rfl rfl rfl rfl rfl rfl rfl).perm (by exact List.Perm.swap _ _ _)
 refine SM .bad rfl (fun L h1 h2 h3=>?_) ?_
 ·show StepX _ _ _ _ _ (C5c b8 b9 b10 [x0,x1,x2,x3,x4] c9 c10 ef (L 3) (L 4) (L 5)) (C5c b8 b9 b10 [x0,x1,x2,x3,x4] c9 c10 ef (L 3) (L 4) true) _ _ _
  rw [show L 5=false from h3]
  exact (X_storeP 2 (writes_box (cells:=[I64 c10]) (o:=0) Nat.one_pos) rfl rfl rfl rfl rfl rfl rfl).perm (by exact (List.perm_middle (l₁:=[_,_])).symm)
 refine sm rfl ?_
 exact ⟨_,resC3 b8 b9 b10 zvA 0 ef,[],rfl,by rw [List.append_nil];exact .refl _,rfl,rfl,rfl⟩
end Go.Proofs

namespace Go.Proofs
open Go.Sy Go.Lib

abbrev zVal:Val:=⟨0,0,[],[],[]⟩
noncomputable def DDec_F (l:List Dcl) (nm s:List UInt8) (most:Int):Option (Val×Int×Int) :=
 if kindL l nm≠1 then some (zVal,0,8)
 else match payF most 0 8 with
  | .error e=>some (zVal,0,e)
  | .ok m=>Option.bind (fieldsF l (DContent_X l most FU) nm s 0 m) fun r=>match r with
   | .error e=>some (zVal,0,e)
   | .ok q=>some (q.1,q.2,0)

theorem res3 {G:IM} {w:World} {b8 b9 b10:Nat} {x0 x1 x2 x3 x4:AV} {c9 c10:Int} (him:AV.imm.immL [x0,x1,x2,x3,x4]=true) (h:AbsOK G w (resC3 b8 b9 b10 [x0,x1,x2,x3,x4] c9 c10)) {tmps:Array Value}
  (h8:tmps[8]?=some (.pointer (some ⟨b8,0,none⟩))) (h9:tmps[9]?=some (.pointer (some ⟨b9,0,none⟩))) (h10:tmps[10]?=some (.pointer (some ⟨b10,0,none⟩))) :
  ∃ v,(results Tryz.f11 tmps).run Tryz.prog w=.ok v w∧RepI G (.tup [.agg [x0,x1,x2,x3,x4],I64 c9,I64 c10]) v:=by
 let e:Env:=⟨G,fun _=>0,fun _=>undef⟩
 have hrd:∀ (A:Abs) (b:Nat) (cells:List AV),A∈resC3 b8 b9 b10 [x0,x1,x2,x3,x4] c9 c10→Reads A b 0 cells→Readable e w b 0 cells:=fun A b cells hA hR j c hc=>by
  obtain ⟨z,z1,z2,z3⟩:=hR G w (h.1 A hA) j c hc
  exact ⟨z,z1,RepI.toRep (e:=e) c z2,z3⟩
 obtain ⟨v8,p8,q8⟩:=load_sound Tryz.tabOK (t:=26) rfl (hrd (boxA b8 26 [x0,x1,x2,x3,x4]) b8 _ (by simp [resC3]) (reads_box 0)) (av:=.agg [x0,x1,x2,x3,x4]) rfl
 obtain ⟨v9,p9,q9⟩:=load_sound Tryz.tabOK (t:=3) rfl (hrd (boxA b9 3 [I64 c9]) b9 _ (by simp [resC3]) (reads_box 0)) (av:=I64 c9) rfl
 obtain ⟨v10,p10,q10⟩:=load_sound Tryz.tabOK (t:=35) rfl (hrd (boxA b10 35 [I64 c10]) b10 _ (by simp [resC3]) (reads_box 0)) (av:=I64 c10) rfl
 refine ⟨.tuple #[v8,v9,v10],?_,?_⟩
 ·rw [results_eq]
  have hres:Tryz.f11.results=#[.cell 8 26,.cell 9 3,.cell 10 35]:=by kernel_rfl
  rw [hres,Array.mapM_eq_mapM_toList]
  simp only [Sem.run_bind,Sem.run_map,List.mapM_cons,List.mapM_nil,resF,Array.getD_eq_getD_getElem?,h8,h9,h10,Option.getD_some,asAddr,Sem.run_pure,Result.andThen_ok,q8 w (SameAs.refl w),q9 w (SameAs.refl w),q10 w (SameAs.refl w)]
  rfl
 ·have hI:RepIT G [.agg [x0,x1,x2,x3,x4],I64 c9,I64 c10] [v8,v9,v10]:=by
   simp only [RepIT]
   exact ⟨_,_,rfl,Rep.toI _ (by simpa [AV.imm] using him) p8,_,_,rfl,Rep.toI _ rfl p9,_,_,rfl,Rep.toI _ rfl p10,rfl⟩
  simp only [RepI]
  exact ⟨_,rfl,hI⟩

def DEnd (b:Nat) (l:List Dcl) (G:IM) (w:World) (r:Val×Int×Int):Ending→World→Prop:=fun en w'=>∃ x cr cs' G',((x=.tup [.agg (Val.c r.1),I64 r.2.1,I64 r.2.2]∨(r.1=zVal∧x=.tup [.agg zvA,I64 r.2.1,I64 r.2.2]))∧cs'=[vmA b l])∧en=.returned cr∧RepI G' x cr∧TrA G w [vmA b l] G' w' cs'
def P7d:Pl:=⟨[[],[],[1],[1,2],[1,2,3],[0],[0,1,2,3,4,5],[0,1,2,3,4,5,6]],[5,6,7],[],[]⟩
def C7d (b8 b9 b10 b tk:Nat) (l:List Dcl) (most made:Int) (v:Val) (l6:Bool):List Ch :=
 [.abs (boxA b8 26 (Val.c v)),.abs (boxA b9 3 (bif l6 then [I64 made] else [I64 0])),.abs (boxA b10 35 [I64 0]),.abs (vmA b l),.abs (tkrC tk b most made)]

set_option maxHeartbeats 1600000 in
theorem Decode_A0 (b:Nat) (l:List Dcl) (hP:Prep l) (hW:WellL l) (nm s:List UInt8) (most:Int) (r:Val×Int×Int) (h:DDec_F l nm s most=some r) :
  FnA Tryz.prog 11 [PT b 0,.s nm,.s s,I64 most] [vmA b l] (fun x cs'=>(x=.tup [.agg (Val.c r.1),I64 r.2.1,I64 r.2.2]∨(r.1=zVal∧x=.tup [.agg zvA,I64 r.2.1,I64 r.2.2]))∧cs'=[vmA b l]):=by
 unfold DDec_F at h
 refine ⟨⟨Tryz.f11,Tryz.func11,by kernel_rfl,by kernel_rfl⟩,?_⟩
 intro G w cargs him hrep hcs
 show Calls Tryz.prog 11 cargs.toArray w (DEnd b l G w r)
 refine calls_of_wp_defers Tryz.func11 rfl ?_
 have hn:Tryz.f11.ntmps=33:=by kernel_rfl
 let X:Ctx Tryz.prog Tryz.tab:=⟨Tryz.tabOK,Tryz.wide_,w,G,blocks [vmA b l],fun _=>0,fun _ _ _=>False,[]⟩
 let e:Env:=⟨G,fun _=>0,fun _=>undef⟩
 have hheap:HeapOK X e w ([vmA b l].map Ch.abs):=by
  refine ⟨[vmA b l].map (fun A=>(Ch.abs A,A.bs)),by simp [Function.comp_def],?_,by rw [flat_abs];exact hcs.2.1,?_⟩
  ·intro p hp
   obtain ⟨A,hA,rfl⟩:=List.mem_map.1 hp
   exact ⟨rfl,hcs.1 A hA⟩
  ·rw [flat_abs]
   intro b hb
   exact ⟨(hcs.2.2 b hb).1,.inr hb,(hcs.2.2 b hb).2⟩
 have r0:Rel X 33 e ⟨enumA 0 [PT b 0,.s nm,.s s,I64 most],[vmA b l].map Ch.abs⟩ { tmps:=cargs.toArray++Array.replicate (33-cargs.toArray.size) undef,defers:=[] } w :=
  Rel.enter rfl rfl him (RepIT.toRep (e:=e) _ hrep) (by simp) hheap rfl
 rw [hn]
 refine wp_seq ?_
 refine Code.wp_mono (fun ex a1 w1 hc=>?_) ((?_:SymC X 33 _ _ (fun ex st=>ex=.normal∧∃ b8 b9 b10,st=⟨[(0,PT b 0),(1,.s nm),(2,.s s),(3,I64 most),(8,PT b8 0),(9,PT b9 0),(10,PT b10 0)],(resC3 b8 b9 b10 zvA 0 0).map Ch.abs++[.abs (vmA b l)]⟩)) e _ w r0)
 rotate_left
 ·refine sc rfl ?_
  refine so rfl ?_
  refine so rfl ?_
  refine so rfl ?_
  refine O_absb 8 rfl rfl rfl (fun b8=>?_)
  refine O_absb 9 rfl rfl rfl (fun b9=>?_)
  refine O_absb 10 rfl rfl rfl (fun b10=>?_)
  refine O_le _ (Le.sub (s2:=⟨[(0,PT b 0),(1,.s nm),(2,.s s),(3,I64 most),(8,PT b8 0),(9,PT b9 0),(10,PT b10 0)],[.abs (boxA b10 35 [I64 0]),.abs (boxA b9 3 [I64 0]),.abs (boxA b8 26 zvA),.abs (vmA b l)]⟩) [1000000,1000000,1000000,1000000] ⟨rfl,rfl,rfl,rfl,rfl,rfl,rfl,trivial⟩ rfl) ?_
  refine O_le _ (Le.order [2,1,0,0] rfl) ?_
  refine O_nil ?_
  exact ⟨rfl,b8,b9,b10,rfl⟩
 cases ex with
 | normal =>
  obtain ⟨e1,st,r1,_,b8,b9,b10,rfl⟩:=hc
  show Code.wp _ _ _ a1 w1
  refine wp_seq ?_
  refine wp_deferF r1 (cavs:=[PT b8 0,PT b9 0,PT b10 0]) rfl rfl rfl (fun vs a2 hvs hr2=>?_)
  show Code.wp _ _ _ a2 w1
  let D:Deferred:={ target:=.fn (.func 21) vs,args:=#[] }
  let thr:AV→List Abs→Prop:=fun x cs'=>∃ ef x0 x1 x2 x3 x4 c9 c10,x=errA ef∧r=(zVal,0,ef)∧cs'=vmA b l::resC3 b8 b9 b10 [x0,x1,x2,x3,x4] c9 c10
  let pan:List PanicEntry→Act→World→Prop:=fun ch a' w'=>∃ x v cs' G',thr x cs'∧ch=[{ v:=v,recovered:=false }]∧RepI G' x v∧TrA G w [vmA b l] G' w' cs'∧a'.tmps[8]?=some (.pointer (some ⟨b8,0,none⟩))∧a'.tmps[9]?=some (.pointer (some ⟨b9,0,none⟩))∧a'.tmps[10]?=some (.pointer (some ⟨b10,0,none⟩))
  let X2:=X.later D pan
  have r2:Rel X2 33 _ _ a2 w1:=hr2 pan
  have hvs2:vs=#[.pointer (some ⟨b8,0,none⟩),.pointer (some ⟨b9,0,none⟩),.pointer (some ⟨b10,0,none⟩)]:=by
   simp only [RepIT,RepI] at hvs
   obtain ⟨_,_,h1,rfl,_,_,rfl,rfl,_,_,rfl,rfl,rfl⟩:=hvs
   rw [← Array.toList_inj,h1]
  have slot:∀ (e':Env) (st':St) (a':Act) (w':World) (i b:Nat),Rel X2 33 e' st' a' w'→get st'.s i=some (PT b 0)→a'.tmps[i]?=some (.pointer (some ⟨b,0,none⟩)):=fun e' st' a' w' i b hr hg=>by
   obtain ⟨v,h1,h2⟩:=hr.slots i _ hg
   simp only [Rep] at h2
   subst h2;exact h1
  have hpan:∀ (st:St) (x:AV),get st.s 8=some (PT b8 0)→get st.s 9=some (PT b9 0)→get st.s 10=some (PT b10 0)→∀ cs' rest,st.c.Perm (cs'.map Ch.abs++rest)→thr x cs'→PanX X2 33 st x:=fun st x g8 g9 g10 cs' rest hp ht e' a' w' v hr hv =>
   ⟨x,v,cs',e'.G,ht,rfl,hv,hr.trA hp rfl,slot e' st a' w' 8 b8 hr g8,slot e' st a' w' 9 b9 hr g9,slot e' st a' w' 10 b10 hr g10⟩
  have hinv:∀ w:World,(invoke (.fn (.func 21) vs) #[]).run Tryz.prog w=.ok (.enter 21 #[.pointer (some ⟨b8,0,none⟩),.pointer (some ⟨b9,0,none⟩),.pointer (some ⟨b10,0,none⟩)]) w:=fun w=>by
   rw [hvs2];simp [go_sem]
  refine Code.wp_mono (fun ex a' w' hc=>?_) ((?_:SymC X2 33 _ _ (fun ex st=>(ex=.normal∨ex=.ret)∧get st.s 8=some (PT b8 0)∧get st.s 9=some (PT b9 0)∧get st.s 10=some (PT b10 0) ∧
   ∃ x0 x1 x2 x3 x4 c9 c10 rest,AV.imm.immL [x0,x1,x2,x3,x4]=true∧((.tup [.agg [x0,x1,x2,x3,x4],I64 c9,I64 c10]:AV)=.tup [.agg (Val.c r.1),I64 r.2.1,I64 r.2.2]∨(r.1=zVal∧(.tup [.agg [x0,x1,x2,x3,x4],I64 c9,I64 c10]:AV)=.tup [.agg zvA,I64 r.2.1,I64 r.2.2]))∧st.c.Perm ((vmA b l::resC3 b8 b9 b10 [x0,x1,x2,x3,x4] c9 c10).map Ch.abs++rest))) e1 _ w1 r2)
  ·have hfin0:=trivial
   have fin:∀ (e':Env) (st':St),Rel X2 33 e' st' a' w'→get st'.s 8=some (PT b8 0)∧get st'.s 9=some (PT b9 0)∧get st'.s 10=some (PT b10 0)∧(∃ x0 x1 x2 x3 x4 c9 c10 rest,AV.imm.immL [x0,x1,x2,x3,x4]=true∧((.tup [.agg [x0,x1,x2,x3,x4],I64 c9,I64 c10]:AV)=.tup [.agg (Val.c r.1),I64 r.2.1,I64 r.2.2]∨(r.1=zVal∧(.tup [.agg [x0,x1,x2,x3,x4],I64 c9,I64 c10]:AV)=.tup [.agg zvA,I64 r.2.1,I64 r.2.2]))∧st'.c.Perm ((vmA b l::resC3 b8 b9 b10 [x0,x1,x2,x3,x4] c9 c10).map Ch.abs++rest))→Leaves Tryz.prog Tryz.f11 a'.tmps (DEnd b l G w r) a'.defers .returning w':=by
    rintro e' st' hr ⟨g8,g9,g10,x0,x1,x2,x3,x4,c9,c10,rest,himm,hgood,hperm⟩
    rw [show a'.defers=[D] from hr.defers]
    refine leaves_cons (by simp) (hinv w') ?_
    refine (clo_ret b8 b9 b10 w').mono ?_
    rintro en u' w'' ⟨⟨v,rfl⟩,rfl,rfl⟩
    have htr:=hr.trA hperm (bs:=[vmA b l]) rfl
    obtain ⟨v2,h1,h2⟩:=res3 himm htr.2.2.2.1.tail (slot e' st' a' _ 8 b8 hr g8) (slot e' st' a' _ 9 b9 hr g9) (slot e' st' a' _ 10 b10 hr g10)
    exact ⟨v2,h1,_,v2,[vmA b l],e'.G,⟨hgood,rfl⟩,rfl,h2,htr.head⟩
   cases ex with
   | normal=>obtain ⟨e',st',h1,_,h2⟩:=hc;exact fin e' st' h1 h2
   | ret=>obtain ⟨e',st',h1,_,h2⟩:=hc;exact fin e' st' h1 h2
   | exit id=>obtain ⟨e',st',h1,h2,_⟩:=hc;rcases h2 with h2|h2<;>cases h2
   | goto l=>obtain ⟨e',st',h1,h2,_⟩:=hc;rcases h2 with h2|h2<;>cases h2
   | panic ch =>
    obtain ⟨hd,x,v,cs',G',⟨ef,x0,x1,x2,x3,x4,c9,c10,rfl,hr',rfl⟩,rfl,hv,htr,t8,t9,t10⟩:=hc
    show Leaves Tryz.prog Tryz.f11 a'.tmps (DEnd b l G w r) a'.defers _ w'
    rw [show a'.defers=[D] from hd]
    refine leaves_cons (by simp) (hinv w') ?_
    refine (clo_pan b8 b9 b10 x0 x1 x2 x3 x4 c9 c10 ef G' w' htr.2.2.1 htr.2.2.2.1.tail v hv).mono ?_
    rintro en u' w'' ⟨⟨rv,rfl⟩,rfl,G2,htr2⟩
    have htr3:=htr.trans (htr2.frame htr.2.2.2.1)
    obtain ⟨v2,h1,h2⟩:=res3 (G:=G2) rfl htr3.2.2.2.1.tail t8 t9 t10
    exact ⟨v2,h1,_,v2,[vmA b l],G2,⟨.inr ⟨by rw [hr'],by rw [hr'];rfl⟩,rfl⟩,rfl,h2,htr3.head⟩
   | outgrown=>exact hc.elim
  refine C_le _ (Le.sub (s2:=⟨[(0,PT b 0),(1,.s nm),(2,.s s),(3,I64 most),(8,PT b8 0),(9,PT b9 0),(10,PT b10 0)],[.abs (boxA b8 26 zvA),.abs (boxA b9 3 [I64 0]),.abs (boxA b10 35 [I64 0]),.abs (vmA b l)]⟩) [1000000,1000000,1000000,1000000] ⟨rfl,rfl,rfl,rfl,rfl,rfl,rfl,trivial⟩ rfl) ?_
  repeat (first|refine sc rfl ?_|refine so rfl ?_)
  refine O_callA [3] (vKind_w b l hP hW nm _ rfl) (by rfl) (by rfl) (by rfl) (by rfl) (by rfl) ?_
  rintro r' cs' ⟨rfl,rfl⟩
  repeat refine so rfl ?_
  refine C_if rfl (fun c1=>?_) (fun c1=>?_)<;>simp only [pL] at c1
  ·rw [if_pos c1] at h
   cases h
   repeat refine sc rfl ?_
   refine O_Xd (X_loadP 1 (reads_box 0) rfl rfl rfl rfl rfl rfl) ?_
   refine O_Xn (X_storeB 1 (writesN_box (cells:=zvA) (new:=zvA) (o:=0) (by show 0+5≤5;decide)) rfl rfl rfl rfl rfl rfl rfl) ?_
   refine O_Xn (X_storeP 2 (writes_box (cells:=[I64 0]) (o:=0) Nat.one_pos) rfl rfl rfl rfl rfl rfl rfl) ?_
   refine O_Xn (X_storeP 3 (writes_box (cells:=[I64 0]) (o:=0) Nat.one_pos) rfl rfl rfl rfl rfl rfl rfl) ?_
   repeat (first|refine sc rfl ?_|refine so rfl ?_)
   exact ⟨.inr rfl,rfl,rfl,rfl,_,_,_,_,_,_,_,[],rfl,.inr ⟨rfl,rfl⟩,pickA_perm (is:=[3,2,1,0]) (As:=vmA b l::resC3 b8 b9 b10 zvA 0 8) rfl⟩
  rw [if_neg (by simpa using c1)] at h
  repeat refine sc rfl ?_
  iterate 4 refine so rfl ?_
  refine O_absb 21 rfl rfl rfl (fun tk=>?_)
  repeat (first|refine sc rfl ?_|refine so rfl ?_)
  have hpx:=pay_x b l tk most 0 8
  cases hp:payF most 0 8 with
  | error e =>
   rw [hp] at h hpx
   cases h
   refine O_throw [1,0] (FnX.err hpx) (by rfl) (by rfl) (by rfl) (by rfl) ?_
   rintro x cs' ⟨rfl,m',rfl⟩
   exact hpan _ _ rfl rfl rfl (vmA b l::resC3 b8 b9 b10 zvA 0 0) [.abs (tkrC tk b most m')] (pickA_perm (is:=[0,1,1,1]) rfl) ⟨e,_,_,_,_,_,_,_,rfl,rfl,rfl⟩
  | ok m =>
   rw [hp] at h hpx
   simp only [] at h
   obtain ⟨q,hq,h⟩:=bT h
   refine O_callA [1,0] (FnX.ok hpx) (by rfl) (by rfl) (by rfl) (by rfl) (by rfl) ?_
   rintro r' cs' ⟨rfl,rfl⟩
   repeat (first|refine sc rfl ?_|refine so rfl ?_)
   have hfx:=fields_x b l hP hW tk most (DContent_X l most FU) (DContent_w b l hP hW tk most FU) m nm s 0 q hq
   cases q with
   | error e =>
    cases h
    refine O_throw [0,0] (FnX.err hfx) (by rfl) (by rfl) (by rfl) (by rfl) ?_
    rintro x cs' ⟨rfl,m',rfl⟩
    exact hpan _ _ rfl rfl rfl (vmA b l::resC3 b8 b9 b10 zvA 0 0) [.abs (tkrC tk b most m')] (pickA_perm (is:=[0,1,1,1]) rfl) ⟨e,_,_,_,_,_,_,_,rfl,rfl,rfl⟩
   | ok q =>
    cases h
    refine O_callA [0,0] (FnX.ok hfx) (by rfl) (by rfl) (by rfl) (by rfl) (by rfl) ?_
    rintro r' cs' ⟨rfl,rfl⟩
    repeat refine sc rfl ?_
    refine O_Xn (X_storeB 2 (writesN_box (cells:=zvA) (new:=Val.c q.1) (o:=0) (by show 0+5≤5;decide)) rfl rfl rfl rfl rfl rfl rfl) ?_
    repeat (first|refine sc rfl ?_|refine so rfl ?_)
    refine C_le _ (Le.sub (s2:=⟨[(8,PT b8 0),(9,PT b9 0),(10,PT b10 0),(11,PT tk 0)],[.abs (boxA b8 26 (Val.c q.1)),.abs (vmA b l),.abs (tkrC tk b most q.2),.abs (boxA b9 3 [I64 0]),.abs (boxA b10 35 [I64 0])]⟩) [1000000,1000000,1000000,1000000,1000000] ⟨rfl,rfl,rfl,rfl,trivial⟩ rfl) ?_
    refine C_le _ (Le.order [0,2,2,0,0] rfl) ?_
    refine C_drawM P7d (fun L=>(C7d b8 b9 b10 b tk l most q.2 q.1 (L 6))) rfl (by kernel_rfl) (fun L L' h=>by show (C7d b8 b9 b10 b tk l most q.2 q.1 (L 6))=(C7d b8 b9 b10 b tk l most q.2 q.1 (L' 6));rw [h 6 (by decide)]) rfl ?_
    refine SM (.agg (Val.c q.1)) rfl (fun L h1 h2 h3=>?_) ?_
    ·show StepX _ _ _ _ _ (C7d b8 b9 b10 b tk l most q.2 q.1 (L 6)) (C7d b8 b9 b10 b tk l most q.2 q.1 (L 6)) _ _ _
     exact X_loadP 0 (reads_box 0) rfl rfl rfl rfl rfl rfl
    refine sm rfl ⟨trivial,?_⟩
    refine sm rfl ⟨trivial,?_⟩
    refine sm rfl ⟨trivial,?_⟩
    refine SM (I64 q.2) rfl (fun L h1 h2 h3=>?_) ?_
    ·show StepX _ _ _ _ _ (C7d b8 b9 b10 b tk l most q.2 q.1 (L 6)) (C7d b8 b9 b10 b tk l most q.2 q.1 (L 6)) _ _ _
     exact X_loadP 4 (reads_box 2) rfl rfl rfl rfl rfl rfl
    refine SM .bad rfl (fun L h1 h2 h3=>?_) ?_
    ·show StepX _ _ _ _ _ (C7d b8 b9 b10 b tk l most q.2 q.1 (L 6)) (C7d b8 b9 b10 b tk l most q.2 q.1 (L 6)) _ _ _
     exact X_storeB 0 (writesN_box (cells:=Val.c q.1) (new:=Val.c q.1) (o:=0) (by show 0+5≤5;decide)) rfl rfl rfl rfl rfl rfl rfl
    refine SM .bad rfl (fun L h1 h2 h3=>?_) ?_
    ·show StepX _ _ _ _ _ (C7d b8 b9 b10 b tk l most q.2 q.1 (L 6)) (C7d b8 b9 b10 b tk l most q.2 q.1 true) _ _ _
     rw [show L 6=false from h3]
     exact (X_storeP 1 (writes_box (cells:=[I64 0]) (o:=0) Nat.one_pos) rfl rfl rfl rfl rfl rfl rfl).perm (by exact List.Perm.swap _ _ _)
    refine SM .bad rfl (fun L h1 h2 h3=>?_) ?_
    ·show StepX _ _ _ _ _ (C7d b8 b9 b10 b tk l most q.2 q.1 (L 6)) (C7d b8 b9 b10 b tk l most q.2 q.1 (L 6)) _ _ _
     exact (X_storeP 2 (writes_box (cells:=[I64 0]) (o:=0) Nat.one_pos) rfl rfl rfl rfl rfl rfl rfl).perm (by exact (List.perm_middle (l₁:=[_,_])).symm)
    refine sm rfl ?_
    show SymC _ _ _ ⟨_,C7d b8 b9 b10 b tk l most q.2 q.1 true⟩ _
    repeat refine sc rfl ?_
    exact ⟨.inr rfl,rfl,rfl,rfl,_,_,_,_,_,_,_,[.abs (tkrC tk b most q.2)],rfl,.inl rfl,pickA_perm (is:=[3,0,0,0]) (As:=vmA b l::resC3 b8 b9 b10 (Val.c q.1) q.2 0) rfl⟩
 | ret=>obtain ⟨e',st',h1,h2,_⟩:=hc;cases h2
 | exit id=>obtain ⟨e',st',h1,h2,_⟩:=hc;cases h2
 | goto l=>obtain ⟨e',st',h1,h2,_⟩:=hc;cases h2
 | panic ch=>exact hc.2.elim
 | outgrown=>exact hc.elim
end Go.Proofs

namespace Go.Proofs
open Go.Sy Go.Lib

abbrev tyN (nm:List UInt8):Ty:=⟨6,nm,[]⟩
theorem tyN_ok {l:List Dcl} {nm:List UInt8} (h:kindL l nm=1∨kindL l nm=2∨kindL l nm=3):TyOK l true (tyN nm) :=
 .mk rfl (fun h=>absurd rfl h) (fun _=>h) (fun h=>by simp at h) (fun h=>by simp at h) (fun i hi=>absurd hi (Nat.not_lt_zero _))
theorem strip_N (nm:List UInt8):strip (tyN nm)=tyN nm:=strip_ne (show (6:Int)≠9 by decide)

theorem deep_tot:∀ (m:Nat) (v:Val),v.deep≤m→v.deep≤1000→LenB v→DeepV_X m v=some ((v.deep:Nat):Int)
 | 0,v,hm,_,_=>by rw [deep_eq] at hm;omega
 | m+1,v,hm,hd,⟨h1,h2,h3,h4⟩=>by
  simp only [DeepV_X,DeepV_F]
  rw [deep_eq] at hm hd
  have take_deep:∀ {l:List Val} {i:Nat},i<l.length→Val.deeps (l.take (i+1))=max (Val.deeps (l.take i)) (l.getD i default).deep:=fun {l i} h=>by
   rw [List.take_succ_eq_append_getElem h,← getD_at h,deeps_snoc]
  have hg:=Iter_goS (body:=DeepV_L1 (DeepV_X m) v) v.items.length (fun i=>((Val.deeps (v.items.take i):Nat):Int)) ((Val.deeps v.items:Nat):Int) (fun i hi=>by
    have h:=deeps_ge hi
    unfold DeepV_L1
    rw [cDT (by simp only [];omega),chk_pos (by simp only [];omega),Int.toNat_natCast,deep_tot m _ (by omega) (by omega) (h4 i hi)]
    simp only [Option.bind_some]
    rw [w64 (by omega) (by omega),take_deep hi]
    congr 3
    omega) (by
    unfold DeepV_L1
    rw [cDF (by simp only [];omega),List.take_length])
  have e0:((Val.deeps (v.items.take 0):Nat):Int)=0:=by rw [List.take_zero];rfl
  simp only [e0] at hg
  rw [hg]
  simp only [Option.bind_some]
  rw [w64 (by omega) (by omega),deep_eq]
  congr 1;omega

theorem fitS_ok {l:List Dcl} (hS:Sch l) {nm:List UInt8} {v:Val} (hL:LenB v) (hk:kindL l nm=1) (hF:Fit l 8 (tyN nm) v):FitStruct_F l nm v=some 0:=by
 have hT:=tyN_ok (l:=l) (nm:=nm) (.inl hk)
 obtain ⟨hd,hw⟩:=fit_well hS 8 true (tyN nm) v hT hF hL
 unfold FitStruct_F
 rw [DKind_F,Option.bind_some,hk]
 show Option.bind (FitFits_F l (tyN nm) v) some=some 0
 unfold FitFits_F
 rw [hw FU (by unfold FU;omega),Option.bind_some,Bool.not_true,cond_false,deep_tot FU v (by unfold FU;omega) (by omega) hL,Option.bind_some,cDF (by omega),fit_fits hS 8 FU true (tyN nm) v hT hF hL (by unfold FU;omega)]
 rfl

theorem encS_fit {l:List Dcl} (hS:Sch l) {nm:List UInt8} {v:Val} (hL:LenB v) (hk:kindL l nm=1) (hF:Fit l 8 (tyN nm) v) (hlen:(encI l 8 (tyN nm) v).length≤1000000) :
  EnEncode_F l nm v=some (if 1024<(encI l 8 (tyN nm) v).length then ([],3) else (encI l 8 (tyN nm) v,0)):=by
 have hT:=tyN_ok (l:=l) (nm:=nm) (.inl hk)
 have hfit:=fitS_ok hS hL hk hF
 have hff:FitFits_F l (tyN nm) v=some 0:=by
  unfold FitStruct_F at hfit
  rw [DKind_F,Option.bind_some,hk] at hfit
  have hfit':Option.bind (FitFits_F l (tyN nm) v) some=some 0:=hfit
  cases hq:FitFits_F l (tyN nm) v with
  | none=>rw [hq] at hfit';cases hfit'
  | some e=>rw [hq] at hfit';exact hfit'
 unfold EnEncode_F
 rw [hfit,Option.bind_some,show ((0:Int) != 0)=false from rfl,cond_false]
 have hin:EnInside_F l (tyN nm) v=some (encI l 8 (tyN nm) v,0):=by
  unfold EnInside_F
  rw [hff,Option.bind_some,show ((0:Int) != 0)=false from rfl,cond_false,enc_ok hS 8 FU true (tyN nm) v hT hF (by unfold FU;omega) hlen];rfl
 rw [hin,Option.bind_some]
 simp only []
 rw [show ((0:Int) == 0)=true from rfl,cond_true,Option.bind_some]
 by_cases hc:1024<(encI l 8 (tyN nm) v).length
 ·rw [if_pos hc,cDT (by omega)]
 ·rw [if_neg hc,cDF (by omega)]

theorem dec_back {l m:List Dcl} (hS:Sch l) (hm:Sch m) (hC:Cpt l m) {nm:List UInt8} {v:Val} (hk:kindL l nm=1) (hF:Fit l 8 (tyN nm) v) (hL:(encI l 8 (tyN nm) v).length<1000000) (hs:v.size≤1000000000) (most:Int) :
  ∃ v',(Full l m→v'=v)∧v'.size≤v.size∧DDec_F m nm (encI l 8 (tyN nm) v) most=some (if max most 0<(v'.size:Int) then (zVal,0,13) else (v',(v'.size:Int),0)):=by
 have e6:strip (tyN nm)=tyN nm:=strip_N nm
 cases hF with
 | bool h1 _ _=>rw [e6] at h1;cases h1
 | num h1 _ _=>rw [e6] at h1;rcases h1 with h1|h1<;>cases h1
 | text h1 _=>rw [e6] at h1;rcases h1 with h1|h1<;>cases h1
 | list h1 _=>rw [e6] at h1;cases h1
 | map h1 _ _ _=>rw [e6] at h1;cases h1
 | enum h1 h2 _ _ _=>rw [e6] at h2;simp only [] at h2;omega
 | union h1 h2 _ _=>rw [e6] at h2;simp only [] at h2;omega
 | struct h1 h2 h3 h4 h5 h6 h7 =>
  rename_i gs xs
  rw [e6] at h5 h6 h7
  obtain ⟨v',a1,_,a3,a4⟩:=struct_back hS hm hC (most:=most) (d:=7) (by omega) (nm:=nm) hk h3 h4 h5 h6 h7 (fun i hi=>core hS hm hC most 7 (by omega) false _ _ (row_ty hS (nm:=nm) (by omega) (h5 i hi)).1 (h6 i hi))
  refine ⟨v',a1,a3,?_⟩
  have e:encI l 8 (tyN nm) ⟨9,0,[],gs,xs⟩=catR (encR l (encI l 7) nm ⟨9,0,[],gs,xs⟩) 0 gs.length:=by
   simp only [encI,encF]
   rw [e6,if_neg (show ¬ ((6:Int)=4∨(6:Int)=5) by decide),if_neg (show ¬ ((6:Int)=7∨(6:Int)=8) by decide),if_pos ⟨rfl,show kindL l nm≠3 by omega⟩]
  rw [e] at hL ⊢
  have h8:=size_ge v'
  unfold DDec_F
  rw [hC.kind nm (by omega),if_neg (by omega),pay_eq (by omega) (by omega) (by omega)]
  by_cases hc:max most 0<(0:Int)+8
  ·rw [if_pos hc,if_pos (by omega)]
  ·rw [if_neg hc]
   simp only []
   have:=a4 FU (by unfold FU;omega) (0+8) hL (by omega) (by omega) (by unfold BB;omega)
   rw [show (7:Int)-((7:Nat):Int)=0 from rfl] at this
   rw [this,Option.bind_some]
   unfold resI
   have e2:(0:Int)+8+((v'.size:Int)-8)=(v'.size:Int):=by omega
   rw [e2]
   by_cases hc2:max most 0<(v'.size:Int)
   ·rw [if_pos hc2,if_pos hc2]
   ·rw [if_neg hc2,if_neg hc2]

theorem dec_any {m:List Dcl} (hm:Sch m) (nm s:List UInt8) (hs:s.length≤3000) (most:Int) :
  ∃ q,DDec_F m nm s most=some q∧(q.2.2≠0→q.1=zVal∧q.2.1=0)∧(q.2.2=0→kindL m nm=1∧Fit m 8 (tyN nm) q.1∧q.2.1=(q.1.size:Int)∧q.1.size≤9*s.length+8∧(encI m 8 (tyN nm) q.1).length≤s.length) ∧
   ∀ most',30000≤most'→q.2.2≠13→DDec_F m nm s most'=some q:=by
 unfold DDec_F
 by_cases hk:kindL m nm≠1
 ·rw [if_pos hk]
  exact ⟨_,rfl,fun _=>⟨rfl,rfl⟩,fun h=>by simp at h,fun most' _ _=>by rw [if_pos hk]⟩
 rw [if_neg hk,pay_eq (by omega) (by omega) (by omega)]
 have hk1:kindL m nm=1:=by simpa using hk
 by_cases hc:max most 0<(0:Int)+8
 ·rw [if_pos hc]
  exact ⟨_,rfl,fun _=>⟨rfl,rfl⟩,fun h=>by simp at h,fun most' _ h=>absurd rfl h⟩
 rw [if_neg hc]
 simp only []
 have hwrap:IntKind.i64.wrap ((0:Int)+1)=8-((7:Nat):Int):=by decide
 have e6:strip (tyN nm)=tyN nm:=strip_N nm
 have hgood:∀ most b t,TyOK m b t→GoodR m 7 (DContent_X m most FU) (max most 0) (8-((7:Nat):Int)) t:=fun most b t hT=>dec_tot hm most 7 FU (by omega) (by unfold FU;omega) b t hT
 obtain ⟨r,h1,h2,h3⟩:=fields_tot hm (t:=tyN nm) (made:=0+8) (M:=max most 0) (by rw [e6]) (by rw [e6];exact hk1) hwrap s (by omega) (by omega) (by omega) (by unfold BB;omega) (hgood most)
 rw [e6] at h1
 rw [h1,Option.bind_some]
 have hmono:∀ most',30000≤most'→r≠.error 13→fieldsF m (DContent_X m most' FU) nm s 0 (0+8)=some r:=fun most' hm' h13 =>
  fields_mono hm (M:=max most 0) (M':=max most' 0) (by omega) hwrap (hgood most) (fun b t hT=>dec_mono hm most most' 7 FU (by omega) (by unfold FU;omega) b t hT) (by omega) (by omega) (by unfold BB;omega) (by omega) h1 h13
 have hpay:∀ most',30000≤most'→(if max most' 0<(0:Int)+8 then (Except.error 13:Except Int Int) else .ok (0+8))=.ok (0+8):=fun most' h=>if_neg (by omega)
 cases r with
 | error e =>
  refine ⟨_,rfl,fun _=>⟨rfl,rfl⟩,fun h=>absurd h (h2 e rfl),fun most' hm' h13=>?_⟩
  rw [if_neg hk,pay_eq (by omega) (by omega) (by omega),hpay most' hm']
  simp only []
  rw [hmono most' hm' (fun h=>by cases h;exact h13 rfl),Option.bind_some]
 | ok q =>
  obtain ⟨v,made'⟩:=q
  obtain ⟨a1,a2,a3,a4,a5⟩:=h3 v made' rfl
  refine ⟨_,rfl,fun h=>absurd rfl h,fun _=>⟨hk1,a1,by simp only [];omega,a4,a5⟩,fun most' hm' h13=>?_⟩
  rw [if_neg hk,pay_eq (by omega) (by omega) (by omega),hpay most' hm']
  simp only []
  rw [hmono most' hm' (fun h=>by cases h),Option.bind_some]

theorem ints_same (a:List Int) (ha:a.length≤100000):IntsR_F a a=some true:=by
 unfold IntsR_F
 rw [bneF,cond_false]
 have h:=Iter_go (body:=IntsR_L2 a a) a.length (.inr ()) (fun i hi=>by
  unfold IntsR_L2
  rw [cDT (by omega),chk_pos (by omega),chk_pos (by omega),bneF,cond_false,w64 (by omega) (by omega)];rfl) (by
  unfold IntsR_L2
  rw [cDF (by omega)])
 rw [h];rfl
theorem same_same:∀ (m:Nat) (v:Val),SizeOf.sizeOf v≤m→LenB v→SameR_X m v v=some true
 | 0,v,hm,_=>by cases v;simp at hm
 | m+1,v,hm,⟨h1,h2,_,h3⟩=>by
  simp only [SameR_X,SameR_F]
  rw [bneF,bneF,bneF,ints_same _ h2,show (v.text == v.text)=true from beq_self_eq_true _]
  simp only [cond_false,cond_true,Bool.not_true,Option.bind_some]
  have h:=fun m1=>Iter_go (body:=SameR_L10 (SameR_X m) v v m1) v.items.length (.inr ()) (fun i hi=>by
   unfold SameR_L10
   rw [cDT (by omega),chk_pos (by omega),chk_pos (by omega),Int.toNat_natCast,same_same m _ (by have:=items_lt hi;omega) (h3 i hi)]
   simp only [Option.bind_some,Bool.not_true,cond_false]
   rw [w64 (by omega) (by omega)];rfl) (by
   unfold SameR_L10
   rw [cDF (by omega)])
  rw [h];rfl
theorem Same_same (v:Val) (hv:LenB v):FnP Tryz.prog 13 [.agg (Val.c v),.agg (Val.c v)] (·=B true):=SameR_wn _ v v _ (same_same _ v (Nat.le_refl _) hv)
theorem len_zVal:LenB zVal:=.mk (Nat.zero_le _) (Nat.zero_le _) (Nat.zero_le _) (fun i hi=>absurd hi (Nat.not_lt_zero _))
end Go.Proofs

namespace Go.Sy
open Go.RowKit

theorem AbsOK.split {G:IM} {w:World} {A K:Abs} (hK:K.bs=[]):AbsOK G w [andA A K]↔AbsOK G w [A,K]:=by
 have he:blocks [andA A K]=blocks [A,K]:=by simp [blocks,andA]
 constructor
 ·rintro ⟨h1,h2,h3⟩
  rw [he] at h2 h3
  refine ⟨fun B hB=>?_,h2,h3⟩
  have:=h1 _ (List.mem_singleton.2 rfl)
  rcases List.mem_cons.1 hB with rfl|hB
  ·exact this.1
  ·rw [List.mem_singleton.1 hB];exact this.2
 ·rintro ⟨h1,h2,h3⟩
  rw [← he] at h2 h3
  exact ⟨fun B hB=>by rw [List.mem_singleton.1 hB];exact ⟨h1 A (by simp),h1 K (by simp)⟩,h2,h3⟩
theorem FnA.split {P:Program} {f:FuncId} {args:List AV} {A K:Abs} {φ:AV→Prop} (hK:K.bs=[]) (h:FnA P f args [andA A K] (fun r cs'=>φ r∧cs'=[andA A K])):FnA P f args [A,K] (fun r cs'=>φ r∧cs'=[A,K]):=by
 refine ⟨h.1,fun G w c h1 h2 h3=>(h.2 G w c h1 h2 ((AbsOK.split hK).2 h3)).mono ?_⟩
 rintro e w' ⟨r,cr,cs',G',⟨hp,rfl⟩,he,g1,g2,g3,g4,g5,g6,o1,o2,o3,o4,o5⟩
 have hb:blocks [andA A K]=blocks [A,K]:=by simp [blocks,andA]
 exact ⟨r,cr,_,G',⟨hp,rfl⟩,he,g1,g2,by rw [← hb];exact g3,g4,(AbsOK.split hK).1 g5,by rw [← hb];exact g6,o1,o2,o3,o4,by rw [← hb];exact o5⟩
end Go.Sy

namespace Go.Proofs
open Go.Sy Go.Lib

theorem zv_rep (G:IM) (a b:AV) (y:Value) (h:RepI G (.tup [.agg zvA,a,b]) y):RepI G (.tup [.agg (Val.c zVal),a,b]) y:=by
 simp only [RepI,RepIT] at h ⊢
 obtain ⟨vs,rfl,x,xs,h1,h2,rest⟩:=h
 refine ⟨vs,rfl,x,xs,h1,?_,rest⟩
 simp only [zvA,RepI] at h2 ⊢
 obtain ⟨ys,rfl,h3⟩:=h2
 refine ⟨ys,rfl,?_⟩
 show RepIL G [I64 0,I64 0,.s [],SL 1 INTc ([]:List Int),.sl 0 5 (Val.rows [])] ys.toList
 generalize ys.toList=zs at h3 ⊢
 simp only [RepIL] at h3 ⊢
 obtain ⟨z1,t1,e1,a1,o1,z2,t2,e2,a2,o2,z3,t3,e3,a3,o3,z4,t4,e4,a4,o4,z5,t5,e5,a5,o5,e6⟩:=h3
 exact ⟨z1,t1,e1,a1,o1,z2,t2,e2,a2,o2,z3,t3,e3,a3,o3,z4,t4,e4,repI_nil a4,o4,z5,t5,e5,repI_nil a5,o5,e6⟩
theorem Decode_A (b:Nat) (l:List Dcl) (hP:Prep l) (hW:WellL l) (nm s:List UInt8) (most:Int) (r:Val×Int×Int) (h:DDec_F l nm s most=some r) :
  FnA Tryz.prog 11 [PT b 0,.s nm,.s s,I64 most] [dscS b l,tabA] (fun x cs'=>x=.tup [.agg (Val.c r.1),I64 r.2.1,I64 r.2.2]∧cs'=[dscS b l,tabA]):=by
 refine FnA.split rfl (FnA.conv (Decode_A0 b l hP hW nm s most r h) (fun x c hx=>?_))
 rcases hx with ⟨rfl|⟨h1,rfl⟩,rfl⟩
 ·exact ⟨_,⟨rfl,rfl⟩,fun G y h=>h⟩
 ·exact ⟨_,⟨rfl,rfl⟩,fun G y h=>by rw [h1];exact zv_rep G _ _ y h⟩
theorem Encode_A (b:Nat) (l:List Dcl) (hP:Prep l) (hW:WellL l) (nm:List UInt8) (v:Val) (r:List UInt8×Int) (h:EnEncode_F l nm v=some r) :
  FnA Tryz.prog 10 [PT b 0,.s nm,.agg (Val.c v)] [dscS b l,tabA] (fun x cs'=>x=.tup [.s r.1,I64 r.2]∧cs'=[dscS b l,tabA]):=FnA.split rfl (EnEncode_w b l hP hW nm v r h)
theorem FitStruct_A (b:Nat) (l:List Dcl) (hP:Prep l) (hW:WellL l) (nm:List UInt8) (v:Val) (r:Int) (h:FitStruct_F l nm v=some r) :
  FnA Tryz.prog 14 [PT b 0,.s nm,.agg (Val.c v)] [dscS b l,tabA] (fun x cs'=>x=I64 r∧cs'=[dscS b l,tabA]):=FnA.split rfl (FitStruct_w b l hP hW nm v r h)

theorem Kind_nil (nm:List UInt8):FnP Tryz.prog 22 [.v (.pointer none),.s nm] (·=I64 0):=by
 refine FnP.intro Tryz.tabOK Tryz.wide_ Tryz.func22 rfl (by decide) rfl (fun X=>?_)
 repeat (first|refine sc rfl ?_|refine so rfl ?_)
 refine O_Xd (X_ptrnil Tryz.underlying32 rfl rfl rfl) ?_
 repeat refine so rfl ?_
 refine C_true rfl rfl ?_
 repeat (first|refine sc rfl ?_|refine so rfl ?_)
 exact ⟨_,rfl,rfl,rfl⟩

def DEndN (G:IM) (w:World):Ending→World→Prop:=fun en w'=>∃ x cr cs' G',(x=.tup [.agg zvA,I64 0,I64 8]∧cs'=[])∧en=.returned cr∧RepI G' x cr∧TrA G w [] G' w' cs'
theorem TrA.none {G G':IM} {w w':World} {cs cs':List Abs} (h:TrA G w cs G' w' cs'):TrA G w cs G' w' []:=by
 obtain ⟨a1,a2,a3,a4,a5,a6,a7,a8,a9,a10⟩:=h
 exact ⟨a1,a2,a3,⟨fun B hB=>(by cases hB),.nil,fun b hb=>(by cases hb)⟩,fun b hb=>(by cases hb),a6,a7,a8,a9,a10⟩
set_option maxHeartbeats 1600000 in
theorem Decode_nil0 (nm s:List UInt8) (most:Int) :
  FnA Tryz.prog 11 [.v (.pointer none),.s nm,.s s,I64 most] [] (fun x cs'=>x=.tup [.agg zvA,I64 0,I64 8]∧cs'=[]):=by
 refine ⟨⟨Tryz.f11,Tryz.func11,by kernel_rfl,by kernel_rfl⟩,?_⟩
 intro G w cargs him hrep hcs
 show Calls Tryz.prog 11 cargs.toArray w (DEndN G w)
 refine calls_of_wp_defers Tryz.func11 rfl ?_
 have hn:Tryz.f11.ntmps=33:=by kernel_rfl
 let X:Ctx Tryz.prog Tryz.tab:=⟨Tryz.tabOK,Tryz.wide_,w,G,blocks [],fun _=>0,fun _ _ _=>False,[]⟩
 let e:Env:=⟨G,fun _=>0,fun _=>undef⟩
 have hheap:HeapOK X e w []:=⟨[],rfl,fun p hp=>(by cases hp),.nil,fun b hb=>(by cases hb)⟩
 have r0:Rel X 33 e ⟨enumA 0 [.v (.pointer none),.s nm,.s s,I64 most],[]⟩ { tmps:=cargs.toArray++Array.replicate (33-cargs.toArray.size) undef,defers:=[] } w :=
  Rel.enter rfl rfl him (RepIT.toRep (e:=e) _ hrep) (by simp) hheap rfl
 rw [hn]
 refine wp_seq ?_
 refine Code.wp_mono (fun ex a1 w1 hc=>?_) ((?_:SymC X 33 _ _ (fun ex st=>ex=.normal∧∃ b8 b9 b10,st=⟨[(0,.v (.pointer none)),(1,.s nm),(2,.s s),(3,I64 most),(8,PT b8 0),(9,PT b9 0),(10,PT b10 0)],(resC3 b8 b9 b10 zvA 0 0).map Ch.abs⟩)) e _ w r0)
 rotate_left
 ·refine sc rfl ?_
  refine so rfl ?_
  refine so rfl ?_
  refine so rfl ?_
  refine O_absb 8 rfl rfl rfl (fun b8=>?_)
  refine O_absb 9 rfl rfl rfl (fun b9=>?_)
  refine O_absb 10 rfl rfl rfl (fun b10=>?_)
  refine O_le _ (Le.sub (s2:=⟨[(0,.v (.pointer none)),(1,.s nm),(2,.s s),(3,I64 most),(8,PT b8 0),(9,PT b9 0),(10,PT b10 0)],[.abs (boxA b10 35 [I64 0]),.abs (boxA b9 3 [I64 0]),.abs (boxA b8 26 zvA)]⟩) [1000000,1000000,1000000] ⟨rfl,rfl,rfl,rfl,rfl,rfl,rfl,trivial⟩ rfl) ?_
  refine O_le _ (Le.order [2,1,0] rfl) ?_
  refine O_nil ?_
  exact ⟨rfl,b8,b9,b10,rfl⟩
 cases ex with
 | normal =>
  obtain ⟨e1,st,r1,_,b8,b9,b10,rfl⟩:=hc
  show Code.wp _ _ _ a1 w1
  refine wp_seq ?_
  refine wp_deferF r1 (cavs:=[PT b8 0,PT b9 0,PT b10 0]) rfl rfl rfl (fun vs a2 hvs hr2=>?_)
  show Code.wp _ _ _ a2 w1
  let D:Deferred:={ target:=.fn (.func 21) vs,args:=#[] }
  let X2:=X.later D (fun _ _ _=>False)
  have r2:Rel X2 33 _ _ a2 w1:=hr2 _
  have hvs2:vs=#[.pointer (some ⟨b8,0,none⟩),.pointer (some ⟨b9,0,none⟩),.pointer (some ⟨b10,0,none⟩)]:=by
   simp only [RepIT,RepI] at hvs
   obtain ⟨_,_,h1,rfl,_,_,rfl,rfl,_,_,rfl,rfl,rfl⟩:=hvs
   rw [← Array.toList_inj,h1]
  have slot:∀ (e':Env) (st':St) (a':Act) (w':World) (i b:Nat),Rel X2 33 e' st' a' w'→get st'.s i=some (PT b 0)→a'.tmps[i]?=some (.pointer (some ⟨b,0,none⟩)):=fun e' st' a' w' i b hr hg=>by
   obtain ⟨v,h1,h2⟩:=hr.slots i _ hg
   simp only [Rep] at h2
   subst h2;exact h1
  have hinv:∀ w:World,(invoke (.fn (.func 21) vs) #[]).run Tryz.prog w=.ok (.enter 21 #[.pointer (some ⟨b8,0,none⟩),.pointer (some ⟨b9,0,none⟩),.pointer (some ⟨b10,0,none⟩)]) w:=fun w=>by
   rw [hvs2];simp [go_sem]
  refine Code.wp_mono (fun ex a' w' hc=>?_) ((?_:SymC X2 33 _ _ (fun ex st=>(ex=.normal∨ex=.ret)∧get st.s 8=some (PT b8 0)∧get st.s 9=some (PT b9 0)∧get st.s 10=some (PT b10 0) ∧
   ∃ rest,st.c.Perm ((resC3 b8 b9 b10 zvA 0 8).map Ch.abs++rest))) e1 _ w1 r2)
  ·have fin:∀ (e':Env) (st':St),Rel X2 33 e' st' a' w'→get st'.s 8=some (PT b8 0)∧get st'.s 9=some (PT b9 0)∧get st'.s 10=some (PT b10 0)∧(∃ rest,st'.c.Perm ((resC3 b8 b9 b10 zvA 0 8).map Ch.abs++rest))→Leaves Tryz.prog Tryz.f11 a'.tmps (DEndN G w) a'.defers .returning w':=by
    rintro e' st' hr ⟨g8,g9,g10,rest,hperm⟩
    rw [show a'.defers=[D] from hr.defers]
    refine leaves_cons (by simp) (hinv w') ?_
    refine (clo_ret b8 b9 b10 w').mono ?_
    rintro en u' w'' ⟨⟨v,rfl⟩,rfl,rfl⟩
    have htr:=hr.trA hperm (bs:=[]) rfl
    obtain ⟨v2,h1,h2⟩:=res3 (x0:=I64 0) (x1:=I64 0) (x2:=.s []) (x3:=NIL) (x4:=NIL) rfl htr.2.2.2.1 (slot e' st' a' _ 8 b8 hr g8) (slot e' st' a' _ 9 b9 hr g9) (slot e' st' a' _ 10 b10 hr g10)
    exact ⟨v2,h1,_,v2,[],e'.G,⟨rfl,rfl⟩,rfl,h2,TrA.none htr⟩
   cases ex with
   | normal=>obtain ⟨e',st',h1,_,h2⟩:=hc;exact fin e' st' h1 h2
   | ret=>obtain ⟨e',st',h1,_,h2⟩:=hc;exact fin e' st' h1 h2
   | exit id=>obtain ⟨e',st',h1,h2,_⟩:=hc;rcases h2 with h2|h2<;>cases h2
   | goto l=>obtain ⟨e',st',h1,h2,_⟩:=hc;rcases h2 with h2|h2<;>cases h2
   | panic ch=>exact hc.2.elim
   | outgrown=>exact hc.elim
  refine C_le _ (Le.sub (s2:=⟨[(0,.v (.pointer none)),(1,.s nm),(2,.s s),(3,I64 most),(8,PT b8 0),(9,PT b9 0),(10,PT b10 0)],[.abs (boxA b8 26 zvA),.abs (boxA b9 3 [I64 0]),.abs (boxA b10 35 [I64 0])]⟩) [1000000,1000000,1000000] ⟨rfl,rfl,rfl,rfl,rfl,rfl,rfl,trivial⟩ rfl) ?_
  repeat (first|refine sc rfl ?_|refine so rfl ?_)
  refine O_call (Kind_nil nm) (by rfl) (by rfl) (by rfl) (by rfl) (fun r hr=>?_)
  subst hr
  repeat refine so rfl ?_
  refine C_true rfl rfl ?_
  repeat refine sc rfl ?_
  refine O_Xd (X_loadP 0 (reads_box 0) rfl rfl rfl rfl rfl rfl) ?_
  refine O_Xn (X_storeB 0 (writesN_box (cells:=zvA) (new:=zvA) (o:=0) (by show 0+5≤5;decide)) rfl rfl rfl rfl rfl rfl rfl) ?_
  refine O_Xn (X_storeP 1 (writes_box (cells:=[I64 0]) (o:=0) Nat.one_pos) rfl rfl rfl rfl rfl rfl rfl) ?_
  refine O_Xn (X_storeP 2 (writes_box (cells:=[I64 0]) (o:=0) Nat.one_pos) rfl rfl rfl rfl rfl rfl rfl) ?_
  repeat (first|refine sc rfl ?_|refine so rfl ?_)
  exact ⟨.inr rfl,rfl,rfl,rfl,[],pickA_perm (is:=[2,1,0]) (As:=resC3 b8 b9 b10 zvA 0 8) rfl⟩
 | ret=>obtain ⟨e',st',h1,h2,_⟩:=hc;cases h2
 | exit id=>obtain ⟨e',st',h1,h2,_⟩:=hc;cases h2
 | goto l=>obtain ⟨e',st',h1,h2,_⟩:=hc;cases h2
 | panic ch=>exact hc.2.elim
 | outgrown=>exact hc.elim
theorem Decode_nil (nm s:List UInt8) (most:Int):FnA Tryz.prog 11 [.v (.pointer none),.s nm,.s s,I64 most] [] (fun x cs'=>x=.tup [.agg (Val.c zVal),I64 0,I64 8]∧cs'=[]) :=
 FnA.conv (Decode_nil0 nm s most) (fun x c hx=>by
  obtain ⟨rfl,rfl⟩:=hx
  exact ⟨_,⟨rfl,rfl⟩,fun G y h=>zv_rep G _ _ y h⟩)
end Go.Proofs

namespace Go.Proofs
open Go.Sy Go.Lib

theorem fewT0 {k:Int} {nm:List UInt8}:FewT ⟨k,nm,[]⟩:=.mk (Nat.zero_le _) (fun i hi=>absurd hi (Nat.not_lt_zero _))
theorem fewT_A:FewT fA.ty:=fewT0
theorem fewL1:FewL sc1:=⟨by decide,fun i hi=>by
 obtain rfl:i=0:=by have:i<1:=hi;omega
 refine ⟨⟨by decide,fun j hj=>?_⟩,by decide⟩
 obtain rfl:j=0:=by have:j<1:=hj;omega
 exact fewT_A⟩
theorem prep1:Prep sc1:=⟨fewL1,fun i hi=>by
 obtain rfl:i=0:=by have:i<1:=hi;omega
 decide,fun i hi=>by
 obtain rfl:i=0:=by have:i<1:=hi;omega
 rfl⟩
theorem tyOK0 (l:List Dcl) (b:Bool) {k:Int} (hk:k=2∨k=4):TyOK l b ⟨k,[],[]⟩:=by
 refine .mk ?_ (fun _=>rfl) (fun h=>?_) (fun h=>?_) (fun h=>?_) (fun i hi=>absurd hi (Nat.not_lt_zero _))
 ·rcases hk with rfl|rfl<;>rfl
 all_goals (simp only [] at h;omega)
theorem well1:WellL sc1:=fun i hi=>by
 obtain rfl:i=0:=by have:i<1:=hi;omega
 refine ⟨rfl,.inl rfl,⟨fun f hf=>?_,fun f hf _=>?_⟩,⟨(fun m hm=>by cases hm),(fun m hm=>by cases hm)⟩,by decide,by decide,fun h=>by rcases h with h|h<;>exact absurd h (by decide)⟩
 ·obtain rfl:f=fA:=List.mem_singleton.1 hf
  decide
 ·obtain rfl:f=fA:=List.mem_singleton.1 hf
  exact ⟨tyOK0 _ _ (.inl rfl),by decide⟩
theorem fin1:FinL sc1:=fun i hi=>by
 obtain rfl:i=0:=by have:i<1:=hi;omega
 decide
theorem rows1:rowsU sc1 [80]=[fA]:=by
 rcases rowsU_of well1 [80] with ⟨h,_⟩|⟨j,h1,hj,_,_,hm,_,hl⟩
 ·cases h
 ·obtain rfl:j=0:=by have:j<1:=hj;omega
  match hr:rowsU sc1 [80] with
  | []=>rw [hr] at hl;cases hl
  | [x] =>
   have:=(hm x).1 (by rw [hr];simp)
   rw [List.mem_singleton.1 this]
  | x::y::z=>rw [hr] at hl;simp [sc1] at hl
def exV:Val:=⟨9,0,[],[1],[⟨2,-1,[],[],[]⟩]⟩
theorem num1 (s:List UInt8) (h:s.length≤1000) (made:Int) (h0:made=8):DContent_X sc1 100 FU ⟨2,[],[]⟩ (vput 1++s) 1 made=some (.ok (⟨2,-1,[],[],[]⟩,s,16)):=by
 subst h0
 have hw:DWire_X sc1 FU ⟨2,[],[]⟩=some 0:=rfl
 have:=num_core (m:=sc1) (most:=100) (rec:=DContent_X sc1 100 99999) (u:=⟨2,[],[]⟩) (x:=1) (v:=⟨2,-1,[],[],[]⟩) (deep:=1) (made:=8) (rest:=s) (by decide) (by decide) (by decide) hw (by
  show numWV sc1 ⟨2,[],[]⟩ ((1:Nat):Int)=_
  unfold numWV
  rw [if_neg (by decide),if_pos rfl,VBack_ok (by decide)]
  rfl) rfl (by rw [List.length_append,vput_len1 (by decide)];omega) (by decide) (by decide)
 exact this
theorem ex1:DDec_F sc1 [80] [2,1,5,1,120] 100=some (exV,16,0):=by
 have v1:vput 1=[1]:=vput_lt (by decide)
 have v2:vput 2=[2]:=vput_lt (by decide)
 have v5:vput 5=[5]:=vput_lt (by decide)
 have hf:fldJ [fA] 1=fA:=rfl
 unfold DDec_F
 rw [if_neg (by show ¬ ((1:Int)≠1);decide),pay_eq (by omega) (by omega) (by omega),if_neg (by decide)]
 simp only []
 unfold fieldsF
 have k1:=key_ok sc1 [80] (t:=1) (w:=0) (by decide) (by decide) (.inl rfl) [1,5,1,120] (by rw [show (2*(1:Int)+0).toNat=2 from rfl,v2];decide)
 rw [show (2*(1:Int)+0).toNat=2 from rfl,v2,rows1] at k1
 have k2:=key_ok sc1 [80] (t:=2) (w:=1) (by decide) (by decide) (.inr rfl) [1,120] (by rw [show (2*(2:Int)+1).toNat=5 from rfl,v5];decide)
 rw [show (2*(2:Int)+1).toNat=5 from rfl,v5,rows1] at k2
 have hn:=num1 [5,1,120] (by decide) 8 rfl
 rw [v1] at hn
 have hsk:=skip_text [120] [] (by unfold span;rw [List.length_append,List.length_append,vput_len1 (by decide)];decide)
 have hsp:span [120]=[1,120]:=by unfold span;rw [show ([120]:List UInt8).length=1 from rfl,v1];rfl
 rw [hsp] at hsk
 have g:fldGo sc1 (DContent_X sc1 100 FU) [80] 0 (4+2) [2,1,5,1,120] 0 [] [] (0+8)=some (.ok ([1],[⟨2,-1,[],[],[]⟩],16)):=by
  rw [fldGo_ne (by decide),show ([2,1,5,1,120]:List UInt8)=[2]++[1,5,1,120] from rfl,k1,Option.bind_some]
  simp only []
  rw [if_neg (by decide),show hasJ [fA] 1=true from rfl,if_neg (by decide),hf,show DWire_X sc1 FU fA.ty=some 0 from rfl,Option.bind_some,if_neg (by decide)]
  rw [show fA.ty=⟨2,[],[]⟩ from rfl,show ([1,5,1,120]:List UInt8)=[1]++[5,1,120] from rfl,show IntKind.i64.wrap ((0:Int)+1)=1 from by decide,show (0:Int)+8=8 from rfl,hn,Option.bind_some]
  simp only []
  rw [chk_pos (by decide),fldGo_ne (by decide),show ([5,1,120]:List UInt8)=[5]++[1,120] from rfl,k2,Option.bind_some]
  simp only []
  rw [if_neg (by decide),show hasJ [fA] 2=false from rfl,if_pos rfl,show ([1,120]:List UInt8)=[1,120]++[] from rfl,hsk,Option.bind_some]
  simp only []
  rw [if_neg (by decide),chk_pos (by decide)]
  rfl
 have g':fldGo sc1 (DContent_X sc1 100 FU) [80] 0 (([2,1,5,1,120]:List UInt8).length+1) [2,1,5,1,120] 0 [] [] (0+8)=some (.ok ([1],[⟨2,-1,[],[],[]⟩],16)):=g
 rw [g',Option.bind_some]
 simp only [DRows_F,Option.bind_some]
 rw [rows1,chk_pos (by decide)]
 rfl
theorem awake18_A (m:Int):FnA Tryz.prog 8 [] [glbA m,tabA] (fun r cs'=>r=B true∧cs'=[glbA m,tabA]):=by
 refine FnA.intro Tryz.tabOK Tryz.wide_ Tryz.func8 rfl (by decide) rfl (fun X=>?_)
 repeat (first|refine sc rfl ?_|refine so rfl ?_)
 refine O_callA [0] (Read_A m tx1 sc1 (.inl par1) fewL1 ⟨well1,fin1⟩) (by rfl) (by rfl) (by rfl) (by rfl) (by rfl) ?_
 rintro r cs' ⟨b1,rfl,rfl⟩
 repeat (first|refine sc rfl ?_|refine so rfl ?_)
 refine O_callA [1,2] (Decode_A b1 sc1 prep1 well1 [80] [2,1,5,1,120] 100 (exV,16,0) ex1) (by rfl) (by rfl) (by rfl) (by rfl) (by rfl) ?_
 rintro r cs' ⟨rfl,rfl⟩
 repeat (first|refine sc rfl ?_|refine so rfl ?_)
 refine ⟨by decide,?_⟩
 repeat (first|refine sc rfl ?_|refine so rfl ?_)
 exact ⟨_,[_,_],_,rfl,pickA_perm (is:=[4,2]) (As:=[_,_]) rfl,rfl,rfl,rfl⟩
end Go.Proofs

namespace Go.Proofs
open Go.Sy Go.Lib

theorem prep_of {l:List Dcl} (hL:Lets l) (hW:WellL l):Prep l:=⟨hL.1,fun i hi=>by have:=hL.2 i hi;omega,fun i hi=>(hW i hi).at_⟩

end Go.Proofs

namespace Go.Proofs
open Go.Sy Go.Lib

set_option maxHeartbeats 1600000 in
theorem decodeFits_A (m:Int) (l:List Dcl) (s nm:List UInt8) (most:Int):FnA Tryz.prog 4 [SL 5 Dcl.c l,.s s,.agg [.s nm,I64 most]] [glbA m,tabA] (fun r cs'=>r=B true∧cs'=[glbA m,tabA]):=by
 refine FnA.intro Tryz.tabOK Tryz.wide_ Tryz.func4 rfl (by decide) rfl (fun X=>?_)
 have aw:=awake18_A m
 iterate 2 refine sc rfl ?_
 refine so rfl ?_
 refine O_le _ (Le.freezebox 5 rfl rfl rfl) ?_
 repeat (first|refine sc rfl ?_|refine so rfl ?_)
 refine O_call (Great_c l) (by rfl) (by rfl) (by rfl) (by rfl) (fun r hr=>?_)
 obtain ⟨g,rfl,hg⟩:=hr
 repeat refine so rfl ?_
 cases g with
 | true =>
  repeat refine so rfl ?_
  refine C_true rfl rfl ?_
  repeat refine sc rfl ?_
  refine O_callA [0,0] (aw) (by rfl) (by rfl) (by rfl) (by rfl) (by rfl) ?_
  rintro r cs' ⟨rfl,rfl⟩
  repeat (first|refine sc rfl ?_|refine so rfl ?_)
  exact ⟨_,[_,_],_,rfl,pickA_perm (is:=[0,0]) (As:=[_,_]) rfl,rfl,rfl,rfl⟩
 | false =>
  have hL:=hg rfl
  repeat refine so rfl ?_
  refine C_if rfl (fun c1=>?_) (fun c1=>?_)<;>simp only [pL] at c1
  ·repeat refine sc rfl ?_
   refine O_callA [0,0] (aw) (by rfl) (by rfl) (by rfl) (by rfl) (by rfl) ?_
   rintro r cs' ⟨rfl,rfl⟩
   repeat (first|refine sc rfl ?_|refine so rfl ?_)
   exact ⟨_,[_,_],_,rfl,pickA_perm (is:=[0,0]) (As:=[_,_]) rfl,rfl,rfl,rfl⟩
  have hlen:s.length≤3000:=by omega
  repeat (first|refine sc rfl ?_|refine so rfl ?_)
  refine O_callA [] (MadeZ_A l hL.1) (by rfl) (by rfl) (by rfl) (by rfl) (by rfl) ?_
  rintro r cs' (⟨rfl,rfl⟩|⟨b,rfl,hW,rfl⟩)
  ·repeat (first|refine sc rfl ?_|refine so rfl ?_)
   refine O_callA [] (Decode_nil nm s most) (by rfl) (by rfl) (by rfl) (by rfl) (by rfl) ?_
   rintro r cs' ⟨rfl,rfl⟩
   repeat (first|refine sc rfl ?_|refine so rfl ?_)
   refine O_callA [] (Decode_nil nm s 1099511627776) (by rfl) (by rfl) (by rfl) (by rfl) (by rfl) ?_
   rintro r cs' ⟨rfl,rfl⟩
   repeat (first|refine sc rfl ?_|refine so rfl ?_)
   refine C_false rfl rfl ?_
   repeat (first|refine sc rfl ?_|refine so rfl ?_)
   refine O_call (Same_same zVal len_zVal) (by rfl) (by rfl) (by rfl) (by rfl) (fun r hr=>?_)
   subst hr
   repeat refine so rfl ?_
   refine C_false rfl rfl ?_
   repeat (first|refine sc rfl ?_|refine so rfl ?_)
   refine C_true rfl rfl ?_
   repeat (first|refine sc rfl ?_|refine so rfl ?_)
   refine O_le _ (Le.agg 80 (Val.c zVal) rfl (.cons .refl (.cons .refl (.cons .refl (.cons .nil (.cons .nil .nil)))))) ?_
   refine O_call (Same_same zVal len_zVal) (by rfl) (by rfl) (by rfl) (by rfl) (fun r hr=>?_)
   subst hr
   repeat refine so rfl ?_
   refine O_callA [2,2] (aw) (by rfl) (by rfl) (by rfl) (by rfl) (by rfl) ?_
   rintro r cs' ⟨rfl,rfl⟩
   repeat (first|refine sc rfl ?_|refine so rfl ?_)
   exact ⟨_,[_,_],_,rfl,pickA_perm (is:=[0,0]) (As:=[_,_]) rfl,rfl,rfl,rfl⟩
  ·have hP:=prep_of hL hW.1
   have hS:=sch_of hL.1 hW.1
   obtain ⟨⟨v,n,e⟩,hq,hbad,hok,hmono⟩:=dec_any hS nm s hlen most
   obtain ⟨q2,hq2,_⟩:=dec_any hS nm s hlen 1099511627776
   simp only [] at hbad hok hmono
   repeat (first|refine sc rfl ?_|refine so rfl ?_)
   by_cases h13:e=13
   ·subst h13
    obtain ⟨rfl,rfl⟩:=hbad (by decide)
    refine O_callA [0,1] (Decode_A b l hP hW.1 nm s most _ hq) (by rfl) (by rfl) (by rfl) (by rfl) (by rfl) ?_
    rintro r cs' ⟨rfl,rfl⟩
    repeat (first|refine sc rfl ?_|refine so rfl ?_)
    refine O_callA [1,1] (Decode_A b l hP hW.1 nm s 1099511627776 _ hq2) (by rfl) (by rfl) (by rfl) (by rfl) (by rfl) ?_
    rintro r cs' ⟨rfl,rfl⟩
    repeat (first|refine sc rfl ?_|refine so rfl ?_)
    refine C_true rfl rfl ?_
    repeat (first|refine sc rfl ?_|refine so rfl ?_)
    refine O_callA [4,2] (aw) (by rfl) (by rfl) (by rfl) (by rfl) (by rfl) ?_
    rintro r cs' ⟨rfl,rfl⟩
    repeat (first|refine sc rfl ?_|refine so rfl ?_)
    exact ⟨_,[_,_],_,rfl,pickA_perm (is:=[0,0]) (As:=[_,_]) rfl,rfl,rfl,rfl⟩
   have hq3:=hmono 1099511627776 (by decide) h13
   refine O_callA [0,1] (Decode_A b l hP hW.1 nm s most _ hq) (by rfl) (by rfl) (by rfl) (by rfl) (by rfl) ?_
   rintro r cs' ⟨rfl,rfl⟩
   repeat (first|refine sc rfl ?_|refine so rfl ?_)
   refine O_callA [1,1] (Decode_A b l hP hW.1 nm s 1099511627776 _ hq3) (by rfl) (by rfl) (by rfl) (by rfl) (by rfl) ?_
   rintro r cs' ⟨rfl,rfl⟩
   repeat (first|refine sc rfl ?_|refine so rfl ?_)
   refine C_false rfl (by simpa using h13) ?_
   repeat (first|refine sc rfl ?_|refine so rfl ?_)
   by_cases he:e=0
   ·subst he
    obtain ⟨hk,hF,rfl,hsz,hl⟩:=hok rfl
    have hLB:LenB v:=fit_len 8 _ v hF (by omega)
    repeat refine so rfl ?_
    refine O_case 68 rfl (fun hb=>?_) (fun hb=>?_)
    ·simp at hb
    repeat refine so rfl ?_
    refine O_call (Same_same v hLB) (by rfl) (by rfl) (by rfl) (by rfl) (fun r hr=>?_)
    subst hr
    repeat refine so rfl ?_
    refine C_false rfl rfl ?_
    repeat (first|refine sc rfl ?_|refine so rfl ?_)
    refine C_false rfl rfl ?_
    repeat (first|refine sc rfl ?_|refine so rfl ?_)
    have hen:=encS_fit hS hLB hk hF (by omega)
    by_cases hc:1024<(encI l 8 (tyN nm) v).length
    ·rw [if_pos hc] at hen
     refine O_callA [1,1] (Encode_A b l hP hW.1 nm v _ hen) (by rfl) (by rfl) (by rfl) (by rfl) (by rfl) ?_
     rintro r cs' ⟨rfl,rfl⟩
     repeat (first|refine sc rfl ?_|refine so rfl ?_)
     refine C_true rfl rfl ?_
     repeat refine sc rfl ?_
     refine O_callA [4,1] (aw) (by rfl) (by rfl) (by rfl) (by rfl) (by rfl) ?_
     rintro r cs' ⟨rfl,rfl⟩
     repeat (first|refine sc rfl ?_|refine so rfl ?_)
     exact ⟨_,[_,_],_,rfl,pickA_perm (is:=[0,0]) (As:=[_,_]) rfl,rfl,rfl,rfl⟩
    rw [if_neg hc] at hen
    obtain ⟨v',hfull,hle,hdec⟩:=dec_back hS hS (Cpt.refl hS) hk hF (by omega) (by omega) 1099511627776
    obtain rfl:=hfull (fun nm g _ h=>h)
    rw [if_neg (by omega)] at hdec
    have hfs:=fitS_ok hS hLB hk hF
    refine O_callA [1,1] (Encode_A b l hP hW.1 nm v' _ hen) (by rfl) (by rfl) (by rfl) (by rfl) (by rfl) ?_
    rintro r cs' ⟨rfl,rfl⟩
    repeat (first|refine sc rfl ?_|refine so rfl ?_)
    refine C_false rfl rfl ?_
    repeat (first|refine sc rfl ?_|refine so rfl ?_)
    refine O_callA [0,0] (Decode_A b l hP hW.1 nm _ 1099511627776 _ hdec) (by rfl) (by rfl) (by rfl) (by rfl) (by rfl) ?_
    rintro r cs' ⟨rfl,rfl⟩
    repeat (first|refine sc rfl ?_|refine so rfl ?_)
    refine O_callA [1,1] (FitStruct_A b l hP hW.1 nm v' _ hfs) (by rfl) (by rfl) (by rfl) (by rfl) (by rfl) ?_
    rintro r cs' ⟨rfl,rfl⟩
    repeat refine so rfl ?_
    refine O_case 125 rfl (fun hb=>?_) (fun hb=>?_)
    rotate_left
    ·simp at hb
    repeat refine so rfl ?_
    refine O_call (Same_same v' hLB) (by rfl) (by rfl) (by rfl) (by rfl) (fun r hr=>?_)
    subst hr
    repeat refine so rfl ?_
    refine O_case 137 rfl (fun hb=>?_) (fun hb=>?_)
    rotate_left
    ·simp at hb;omega
    repeat refine sc rfl ?_
    refine O_callA [5,1] (aw) (by rfl) (by rfl) (by rfl) (by rfl) (by rfl) ?_
    rintro r cs' ⟨rfl,rfl⟩
    repeat (first|refine sc rfl ?_|refine so rfl ?_)
    exact ⟨_,[_,_],_,rfl,pickA_perm (is:=[0,0]) (As:=[_,_]) rfl,rfl,rfl,rfl⟩
   ·obtain ⟨rfl,rfl⟩:=hbad he
    refine O_case 63 rfl (fun hb=>?_) (fun hb=>?_)
    ·simp at hb
    repeat refine so rfl ?_
    refine O_call (Same_same zVal len_zVal) (by rfl) (by rfl) (by rfl) (by rfl) (fun r hr=>?_)
    subst hr
    repeat refine so rfl ?_
    refine C_false rfl rfl ?_
    repeat (first|refine sc rfl ?_|refine so rfl ?_)
    refine C_true rfl (by simpa using he) ?_
    repeat (first|refine sc rfl ?_|refine so rfl ?_)
    refine O_le _ (Le.agg 80 (Val.c zVal) rfl (.cons .refl (.cons .refl (.cons .refl (.cons .nil (.cons .nil .nil)))))) ?_
    refine O_call (Same_same zVal len_zVal) (by rfl) (by rfl) (by rfl) (by rfl) (fun r hr=>?_)
    subst hr
    repeat refine so rfl ?_
    refine O_callA [4,2] (aw) (by rfl) (by rfl) (by rfl) (by rfl) (by rfl) ?_
    rintro r cs' ⟨rfl,rfl⟩
    repeat (first|refine sc rfl ?_|refine so rfl ?_)
    exact ⟨_,[_,_],_,rfl,pickA_perm (is:=[0,0]) (As:=[_,_]) rfl,rfl,rfl,rfl⟩
end Go.Proofs

namespace Go.Proofs.YtgmdpfoccnalnaaGreatDoor
open Go.Sy Go.RowKit Go.ChangeShapes Go.WideShapes Go.ChangeAt

theorem own:ownKnob Tryz.prog.godebug=none:=by kernel_rfl
theorem laidOut:laidOutB Tryz.prog=true:=by kernel_rfl
theorem extra:U8Extra Tryz.prog Tryz.lays197_ren:=⟨by kernel_rfl,by kernel_rfl,by kernel_rfl,by kernel_rfl,by kernel_rfl,by kernel_rfl,by kernel_rfl⟩
theorem u8types:U8Types Tryz.prog Tryz.lays197_ren:={ Tryz.lays197 with }
theorem tabs {laid : List (String × DataW Unit)} {W : World} (h : laidMet Tryz.prog laid W) (h1 : ("unicode/utf8.acceptRanges", Rows.laid_unicode_utf8_acceptRanges) ∈ laid) (h2 : ("unicode/utf8.first", Rows.laid_unicode_utf8_first) ∈ laid) : Lib.Utf8Tabs 1 2 W := by
 refine utf8Tabs_of_readsT u8types extra (w:=W) ?_ ?_
 ·have:=Lib.laidMet.reads h h2
  rw [show Rows.laid_unicode_utf8_first=Lib.firstData from Pinned.utf8First_eq] at this
  exact this
 ·have:=Lib.laidMet.reads h h1
  rw [show (Rows.laid_unicode_utf8_acceptRanges:DataW Unit)=Lib.acceptData by kernel_rfl] at this
  exact this

theorem handed_laid_shaped {H:Type} {enc:TypeId×Value→H} {a:Assume} {C:Checked} {os:Os} {f:FuncId} {fn:Func} {s:ChangeSpec} {conds:List PathCond} {apart fresh handsOn again:Bool} {Y:World→Prop} (hY:∀ w w':World,w.heap=w'.heap→Y w→Y w')
  (own:ownKnob C.prog.godebug=none) (started:os.Started) (noInit:C.prog.inits.idxOf? f=none) (hfn:C.prog.funcs[f]?=some fn)
  (witness:∃ (w:World) (tape:Tape) (i:Input),w.os=os∧(w.forCall tape i).Shaped C.prog∧i.vars=[]∧Input.okWide C.prog (w.forCall tape i) .any w.heap.size f i ∧
   ((s.pre enc C.prog fn conds apart (w.forCall tape i).memory i.args∧Y (w.forCall tape i).memory)∧sizedMet enc C.prog fn (OpenSpec.ofChange s) apart (w.forCall tape i).memory i.args)∧a.holds C.prog (lone (Frame.enter C.prog f i.args .normal) [] (w.forCall tape i)))
  (k:∀ (W:World) (base:Nat) (args:Array Value) (ds gs:List (DataW H)) (before:List MemPlace),(∀ (j:Nat) t v,fn.params[j]?=some t→args[j]?=some v→Value.okWide C.prog W .any base t v)→DataW.Whole enc C.prog fn.params.toList s.vars apart W args.toList ds gs before→Y W→W.ShapedOpen C.prog →
   Calls C.prog f args W fun e W'=>∃ v,e=.returned v∧s.post enc C.prog fn apart fresh handsOn again W args v W') :
  ReturnsInHanded a C os f .any (fun w args=>(s.pre enc C.prog fn conds apart w args∧Y w)∧sizedMet enc C.prog fn (OpenSpec.ofChange s) apart w args) (s.post enc C.prog fn apart fresh handsOn again):=by
 refine returnsInHanded_of_calls own started noInit witness ?_
 rintro w tape i-hsh - ⟨-,-,-,g,hg,-,-,-,-,hval⟩ ⟨⟨⟨ds,gs,before,hw,-⟩,hy⟩,-⟩ -
 cases Option.some.inj (hg.symm.trans hfn)
 exact (k (w.forCall tape i) w.heap.size i.args ds gs before hval (DataW.Whole.of_heap (w:=(w.forCall tape i).memory) (w':=w.forCall tape i) (by rfl) hw) (hY (w.forCall tape i).memory (w.forCall tape i) (by rfl) hy) hsh).mono (fun e W' ⟨v,he,hp⟩=>he▸ChangeSpec.post_blind hp)

theorem bTy:∀ N,OpensB N Tryz.prog 58 Ty.c (fun _=>True)
 | 0=>OpensB.zero
 | N+1 =>
  opensB_struct (α:=Int×List UInt8×List Ty×Unit) (fun p=>(⟨p.1,p.2.1,p.2.2.1⟩:Ty)) Tryz.underlying58 (by kernel_rfl)
   (opensFB_cons (sz:=1) rfl (by kernel_rfl) ((opens_int Tryz.underlying3).toB N) (opensFB_cons (sz:=1) rfl (by kernel_rfl) ((opens_string Tryz.underlying9).toB N)
    (opensFB_cons (sz:=1) rfl (by kernel_rfl) ((opensB_slice (esz:=3) (cells:=Ty.c) (ok:=fun _=>True) Tryz.underlying56 (by kernel_rfl) (of_decide_eq_true rfl) (fun _=>rfl) (bTy N)).mono (Nat.le_succ N)) opensFB_nil)))
   (fun x G ys h=>by
    obtain ⟨k,nm,o,u⟩:=x
    simp only [List.cons_append,List.nil_append,Ty.c,RepIL] at h ⊢
    obtain ⟨z1,t1,e1,g1,h1,z2,t2,e2,g2,h2,z3,t3,e3,g3,h3,e4⟩:=h
    exact ⟨z1,t1,e1,g1,h1,z2,t2,e2,g2,h2,z3,t3,e3,repI_rows (fun i hi=>(Ty.rows_eq _ i hi).symm) g3,h3,e4⟩) (fun _ _=>trivial)
theorem opTy:OpensT Tryz.prog 58 Ty.c (fun _=>True):=OpensT.ofB bTy
theorem opFld:OpensT Tryz.prog 60 Fld.c (fun _=>True) :=
 opens_struct (α:=Int×List UInt8×Ty×Unit) (fun p=>(⟨p.1,p.2.1,p.2.2.1⟩:Fld)) Tryz.underlying60 (by kernel_rfl)
  (opensF_cons (sz:=1) rfl (by kernel_rfl) (opens_int Tryz.underlying3) (opensF_cons (sz:=1) rfl (by kernel_rfl) (opens_string Tryz.underlying9) (opensF_cons (sz:=3) rfl (by kernel_rfl) opTy opensF_nil))) (fun _=>rfl) (fun _ _=>trivial)
theorem opMth:OpensT Tryz.prog 127 Mth.c (fun _=>True) :=
 opens_struct (α:=Int×List UInt8×List UInt8×List UInt8×Bool×Unit) (fun p=>(⟨p.1,p.2.1,p.2.2.1,p.2.2.2.1,p.2.2.2.2.1⟩:Mth)) Tryz.underlying127 (by kernel_rfl)
  (opensF_cons (sz:=1) rfl (by kernel_rfl) (opens_int Tryz.underlying3) (opensF_cons (sz:=1) rfl (by kernel_rfl) (opens_string Tryz.underlying9) (opensF_cons (sz:=1) rfl (by kernel_rfl) (opens_string Tryz.underlying9)
   (opensF_cons (sz:=1) rfl (by kernel_rfl) (opens_string Tryz.underlying9) (opensF_cons (sz:=1) rfl (by kernel_rfl) (opens_bool Tryz.underlying4) opensF_nil))))) (fun _=>rfl) (fun _ _=>trivial)
theorem opDcl:OpensT Tryz.prog 53 Dcl.c (fun _=>True) :=
 opens_struct (α:=Int×List UInt8×List Fld×List Mth×Int×Unit) (fun p=>(⟨p.1,p.2.1,p.2.2.1,p.2.2.2.1,p.2.2.2.2.1⟩:Dcl)) Tryz.underlying53 (by kernel_rfl)
  (opensF_cons (sz:=1) rfl (by kernel_rfl) (opens_int Tryz.underlying3) (opensF_cons (sz:=1) rfl (by kernel_rfl) (opens_string Tryz.underlying9)
   (opensF_cons (sz:=1) rfl (by kernel_rfl) (opens_slice (esz:=5) (cells:=Fld.c) (ok:=fun _=>True) Tryz.underlying50 (by kernel_rfl) (of_decide_eq_true rfl) (fun _=>rfl) opFld)
   (opensF_cons (sz:=1) rfl (by kernel_rfl) (opens_slice (esz:=5) (cells:=Mth.c) (ok:=fun _=>True) Tryz.underlying51 (by kernel_rfl) (of_decide_eq_true rfl) (fun _=>rfl) opMth)
   (opensF_cons (sz:=1) rfl (by kernel_rfl) (opens_int Tryz.underlying3) opensF_nil))))) (fun _=>rfl) (fun _ _=>trivial)
structure AskT where
 name:List UInt8
 most:Int
def AskT.c (x:AskT):List AV:=[.s x.name,I64 x.most]
theorem opAsk:OpensT Tryz.prog 28 AskT.c (fun _=>True) :=
 opens_struct (α:=List UInt8×Int×Unit) (fun p=>(⟨p.1,p.2.1⟩:AskT)) Tryz.underlying28 (by kernel_rfl)
  (opensF_cons (sz:=1) rfl (by kernel_rfl) (opens_string Tryz.underlying9) (opensF_cons (sz:=1) rfl (by kernel_rfl) (opens_int Tryz.underlying3) opensF_nil)) (fun _=>rfl) (fun _ _=>trivial)
theorem opDcls:OpensV Tryz.prog 22 (fun p:List Dcl=>SL 5 Dcl.c p) (fun l=>l.length≤maxLen∧∀ i,i<l.length→True) :=
 opensV_slice (esz:=5) (cells:=Dcl.c) (ok:=fun _=>True) Tryz.underlying22 (by kernel_rfl) (of_decide_eq_true rfl) (fun _=>rfl) opDcl
theorem known {W : World} {laid : List (String × DataW Unit)} (hsh : W.ShapedOpen Tryz.prog) (h : laidMet Tryz.prog laid W) (h1 : ("unicode/utf8.acceptRanges", Rows.laid_unicode_utf8_acceptRanges) ∈ laid) (h2 : ("unicode/utf8.first", Rows.laid_unicode_utf8_first) ∈ laid) : ∃ m, ∀ A ∈ [glbA m, tabA], A.ok (memG W) W := by
 obtain ⟨m,hm⟩:∃ m,W.cell? ⟨0,0,none⟩=some (.int .i64 m) :=
  Go.Proofs.cell_of_shapedOpen_int (zero:=#[.int .i64 0]) (t:=3) hsh (of_decide_eq_true (by kernel_rfl)) (by kernel_rfl) rfl (by kernel_rfl) (by kernel_rfl) Tryz.underlying3
 have ht:=tabs h h1 h2
 refine ⟨m,fun A hA=>?_⟩
 rcases List.mem_cons.1 hA with rfl|hA
 ·exact hm
 ·rw [List.mem_singleton.1 hA]
  exact fun b o v hv=>utfT_of ht b o v hv
end Go.Proofs.YtgmdpfoccnalnaaGreatDoor

namespace Go.Proofs.YtgmdpfoccnalnaaGreatDoor.decodeFitsDone
open Go.ChangeShapes Go.WideShapes

theorem fact1:Rows.decodeFitsRow.wf (OpenSpec.ofChange Rows.decodeFitsSpec)=true:=by kernel_rfl
theorem fact2:laidOutB Tryz.prog=true:=by kernel_rfl
theorem fact3:mapsRowed Tryz.prog=true:=by kernel_rfl
theorem fact4:Tryz.f4.params.all (Program.readableRec Tryz.prog ·)=true:=by kernel_rfl
theorem fact5:namedTie Tryz.prog Rows.decodeFitsRow.named Rows.decodeFitsSpec.vars=true:=by kernel_rfl
theorem fact6:(Rows.decodeFitsRow.stops == [])=true:=by kernel_rfl
theorem fact7:(Tryz.prog.stops == [])=true:=by kernel_rfl
theorem fact8:(Rows.decodeFitsRow.knobs == [])=true:=by kernel_rfl
theorem fact9:(Tryz.prog.stopKnobs == [])=true:=by kernel_rfl
theorem fact10:(Rows.decodeFitsRow.inPlace == Tryz.prog.inPlace 4)=true:=by kernel_rfl
theorem fact11:(Rows.decodeFitsRow.unfollowed == Tryz.prog.unfollowed 4)=true:=by kernel_rfl
theorem fact12:(Rows.decodeFitsRow.recurses == Tryz.prog.recurses 4)=true:=by kernel_rfl
theorem fact13:(Rows.decodeFitsRow.named == Tryz.prog.varsNamed 4)=true:=by kernel_rfl
theorem fact14:(Rows.decodeFitsRow.maps == (Tryz.f4.params.toList++Rows.decodeFitsSpec.plain.varTypes Tryz.prog).any (Program.mapsRec Tryz.prog ·))=true:=by kernel_rfl
theorem fact15:(Rows.decodeFitsRow.ifaces == (Tryz.f4.params.toList++Rows.decodeFitsSpec.plain.varTypes Tryz.prog).any (Program.ifacesRec Tryz.prog ·))=true:=by kernel_rfl
theorem fact16:(Rows.decodeFitsRow.mapsOut == Program.mapsAmong Tryz.prog Tryz.f4.resultTypes.toList)=true:=by kernel_rfl
theorem fact17:(Rows.decodeFitsRow.loops == (Tryz.f4.params.toList++Rows.decodeFitsSpec.plain.varTypes Tryz.prog).any (Program.loopsFrom Tryz.prog ·))=true:=by kernel_rfl
theorem fact18:(Rows.decodeFitsRow.wideKeys == (Tryz.f4.params.toList++Rows.decodeFitsSpec.plain.varTypes Tryz.prog++Tryz.f4.resultTypes.toList).any (Program.wideKeysFrom Tryz.prog ·))=true:=by kernel_rfl
theorem fact19:Rows.decodeFitsSpec.vars.all (Program.varReadable Tryz.prog ·)=true:=by kernel_rfl
theorem fact20:Tryz.f4.resultTypes.all (fun t=>Program.readableRec Tryz.prog t&&decide (t<Tryz.prog.types.size))=true:=by kernel_rfl
theorem fact21:(Rows.decodeFitsRow.ifacesOut == Tryz.f4.resultTypes.toList.any (Program.ifacesRec Tryz.prog ·))=true:=by kernel_rfl
theorem fact22:(Rows.decodeFitsRow.loopsOut == Tryz.f4.resultTypes.toList.any (Program.loopsFrom Tryz.prog ·))=true:=by kernel_rfl
theorem fact23:(Rows.decodeFitsRow.plainKeys == Tryz.prog.plainKeys)=true:=by kernel_rfl
theorem fact24:Rows.decodeFitsRow.shortTexts.isNone=true:=by kernel_rfl
theorem fact25:Tryz.prog.stopsHeard=true:=by kernel_rfl
theorem fact26:Tryz.prog.mayEnter=true:=by kernel_rfl
theorem fact27:(Rows.decodeFitsRow.lifted == Tryz.prog.liftsFinal)=true:=by kernel_rfl
theorem fact28:(Program.make Tryz.prog == some Rows.decodeFitsRow.make)=true:=by kernel_rfl
theorem fact30:(Rows.decodeFitsRow.pinned == Rows.decodeFitsRow.pinnedBy)=true:=by kernel_rfl
theorem fact31:(Rows.decodeFitsRow.veiled == (Tryz.f4.params.toList++Rows.decodeFitsSpec.plain.varTypes Tryz.prog++Tryz.f4.resultTypes.toList).any (Program.veiledRec Tryz.prog ·))=true:=by kernel_rfl
theorem fact32:Rows.decodeFitsRow.veiledFits Tryz.prog Tryz.f4.params.toList (Tryz.f4.params.toList++Rows.decodeFitsSpec.plain.varTypes Tryz.prog++Tryz.f4.resultTypes.toList)=true:=by kernel_rfl
theorem facts:joinedFacts Tryz.prog 4 Tryz.f4 Rows.decodeFitsSpec Rows.decodeFitsRow=true:=by
 unfold joinedFacts
 simp only [Bool.and_eq_true]
 exact ⟨⟨⟨⟨⟨⟨⟨⟨⟨⟨⟨⟨⟨⟨⟨⟨⟨⟨⟨⟨⟨⟨⟨⟨⟨⟨⟨⟨⟨⟨⟨fact1,fact2⟩,fact3⟩,fact4⟩,fact5⟩,fact6⟩,fact7⟩,fact8⟩,fact9⟩,fact10⟩,fact11⟩,fact12⟩,fact13⟩,fact14⟩,fact15⟩,fact16⟩,fact17⟩,fact18⟩,fact19⟩,fact20⟩,fact21⟩,fact22⟩,fact23⟩,fact24⟩,fact25⟩,fact26⟩,fact27⟩,fact28⟩,(by kernel_rfl)⟩,fact30⟩,fact31⟩,fact32⟩
end Go.Proofs.YtgmdpfoccnalnaaGreatDoor.decodeFitsDone
