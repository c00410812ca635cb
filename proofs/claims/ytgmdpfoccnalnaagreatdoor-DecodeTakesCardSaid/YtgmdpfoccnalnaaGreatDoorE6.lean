/- The symbolic walk, part 60: a law's row by a contract that knows a library's variable. -/
import Derived.Test.YtgmdpfoccnalnaaGreatDoorE1
import Derived.Test.YtgmdpfoccnalnaaGreatDoorE2
import Derived.Lib.DecodeN
import Derived.Shelf.Small.Strs
import Derived.Shelf.Strings.Search1
import Derived.Shelf.Strings.Search3
import Derived.Shelf.Unicode.DecodeAny
import Derived.Ground.Names2Prog
import Derived.Test.YtgmdpfoccnalnaaGreatDoorProg
import Derived.Test.YtgmdpfoccnalnaaGreatDoorE3
import Derived.Test.YtgmdpfoccnalnaaGreatDoorE5
import Derived.Lib.AppendStr
import Derived.Lib.UnsafeStr
import Derived.Lib.Builder
import Derived.Laws.StructEq
import Derived.Test.YtgmdpfoccnalnaaGreatDoorE4
set_option linter.unusedSimpArgs false
set_option linter.unusedVariables false
namespace Go.Sy
open Go.RowKit Go.WideShapes Go.ChangeShapes

theorem FnA.law0 {P:Program} {f:FuncId} {avs:List AV} {cs:List Abs} {post:AV→List Abs→Prop} (h:FnA P f avs cs post) (hp:∀ r c,post r c→r=B true) (hb:blocks cs=[]) {W:World} {args:Array Value}
  (hok:∀ A∈cs,A.ok (memG W) W) (hr:RepIT (memG W) avs args.toList) :
  Calls P f args W fun e w'=>e=.returned (.bool true)∧Below W.heap.size W w':=by
 have h1:=h.2 (memG W) W args.toList (memG_ok W) hr ⟨hok,by rw [hb];exact List.nodup_nil,by rw [hb];intro b hb';cases hb'⟩
 rw [Array.toArray_toList] at h1
 refine h1.mono ?_
 rintro e w' ⟨r,cr,cs',G',hpo,rfl,g1,g2,g3,g4,g5,g6,o1,o2,o3,o4,o5⟩
 rw [hp r cs' hpo] at g1
 simp only [RepI] at g1
 refine ⟨by rw [g1],o1,o2,o3,o4,fun k hk=>o5 k hk (by rw [hb];intro h;cases h) (fun L hL=>by simp [memG] at hL)⟩

theorem law_callK {P:Program} {fn:Func} {f:FuncId} {s:ChangeSpec} {tb:Nat} {ts:List Nat} {α:Type} {avs:α→List AV} {ok:α→Prop} {cs:List Abs} (W:World)
  (hts:fn.params.toList=ts) (hrt:fn.resultTypes=#[tb]) (htb:P.underlying tb=some .bool) (hvars:s.vars=[])
  (hfn:∀ (H:Type) (ds:List (DataW H)),ds.length=ts.length→s.fn H ds={ results:=[.lit (.bool true)],args:=ds })
  (ho:OpensA P ts avs ok) (hl:laidOutB P=true) (hk:∀ t∈ts,P.readableRec t=true∧t<P.types.size)
  (hb:blocks cs=[]) (hok:∀ A∈cs,A.ok (memG W) W)
  (hc:∀ x,ok x→FnA P f (avs x) cs (fun r cs'=>r=B true∧cs'=cs)) {H:Type} (enc:TypeId×Value→H) :
  ∀ (base:Nat) (args:Array Value) (ds gs:List (DataW H)) (before:List MemPlace),
   (∀ (j:Nat) t v,fn.params[j]?=some t→args[j]?=some v→Value.okWide P W .any base t v) →
   DataW.Whole enc P fn.params.toList s.vars false W args.toList ds gs before →
   Calls P f args W fun e W'=>∃ v,e=.returned v∧s.post enc P fn false true false false W args v W':=by
 intro base args ds gs before hval hW
 have hW':=hW
 obtain ⟨p,q,hA,hV,rfl,hfz,hnd⟩:=hW
 rw [hvars] at hV
 obtain ⟨rfl,rfl⟩:=trodVars_none hV
 rw [hts] at hA
 obtain ⟨x,hx,hxr⟩:=ho H enc W base args.toList ds p (fun j t v h1 h2=>hval j t v (by rw [← hts] at h1;simpa using h1) (by simpa using h2)) hA
 refine ((hc x hx).law0 (fun r c h=>h.1) hb hok hxr).mono fun e W' ⟨he,bel⟩=>?_
 subst he
 have hlen:=trodAll_count hA
 refine ⟨_,rfl,ds,[],p++[],[],p,[],hW',?_,?_,?_,bel.frame _,fun h=>by cases h⟩
 ·rw [List.append_nil,hfn H ds hlen,hrt]
  exact trodAll_mk1 (shut_bool htb _)
 ·rw [List.append_nil,hfn H ds hlen,hts]
  exact trodAll_below hl bel hk hA
 ·rw [List.append_nil,hfn H ds hlen,hvars]
  rfl
end Go.Sy

namespace Go.Sy
open Go.RowKit Go.WideShapes Go.ChangeShapes

end Go.Sy

namespace Go.Sy
open Go.RowKit

def knowsA (F:Nat→Nat→Option Value):Abs where
 bs:=[]
 ok:=fun G w=>∀ b o v,F b o=some v→G b o=some v
 keep:=fun hG _ h b o v hv=>hG.1 _ _ _ (h b o v hv)

def andA (A K:Abs):Abs where
 bs:=A.bs++K.bs
 ok:=fun G w=>A.ok G w∧K.ok G w
 keep:=fun hG hb h=>⟨A.keep hG (fun b hbb=>hb b (List.mem_append_left _ hbb)) h.1,K.keep hG (fun b hbb=>hb b (List.mem_append_right _ hbb)) h.2⟩

theorem AbsOK.andL {G:IM} {w:World} {A K:Abs} (hK:K.bs=[]) (h:AbsOK G w [andA A K]):AbsOK G w [A]:=by
 obtain ⟨h1,h2,h3⟩:=h
 have he:blocks [andA A K]=blocks [A]:=by simp [blocks,andA,hK]
 rw [he] at h2 h3
 exact ⟨fun B hB=>by rw [List.mem_singleton.1 hB];exact (h1 _ (List.mem_singleton.2 rfl)).1,h2,h3⟩
theorem AbsOK.andR {G:IM} {w:World} {A K:Abs} (hK:K.bs=[]) (h:AbsOK G w [andA A K]):AbsOK G w [K]:=by
 obtain ⟨h1,h2,h3⟩:=h
 exact ⟨fun B hB=>by rw [List.mem_singleton.1 hB];exact (h1 _ (List.mem_singleton.2 rfl)).2,by simp [blocks,hK],by simp [blocks,hK]⟩
theorem AbsOK.and {G:IM} {w:World} {A K:Abs} (hK:K.bs=[]) (h:AbsOK G w [A]) (k:K.ok G w):AbsOK G w [andA A K]:=by
 obtain ⟨h1,h2,h3⟩:=h
 have he:blocks [andA A K]=blocks [A]:=by simp [blocks,andA,hK]
 rw [← he] at h2 h3
 exact ⟨fun B hB=>by rw [List.mem_singleton.1 hB];exact ⟨h1 _ (List.mem_singleton.2 rfl),k⟩,h2,h3⟩

theorem FnA.left {P:Program} {f:FuncId} {args:List AV} {A K:Abs} {φ:AV→Prop} (hK:K.bs=[]) (h:FnA P f args [A] (fun r cs'=>φ r∧cs'=[A])):FnA P f args [andA A K] (fun r cs'=>φ r∧cs'=[andA A K]):=by
 refine ⟨h.1,fun G w c h1 h2 h3=>(h.2 G w c h1 h2 (h3.andL hK)).mono ?_⟩
 rintro e w' ⟨r,cr,cs',G',⟨hp,rfl⟩,he,g1,g2,g3,g4,g5,g6,o1,o2,o3,o4,o5⟩
 have hb:blocks [andA A K]=blocks [A]:=by simp [blocks,andA,hK]
 have hk:K.ok G' w':=K.keep g2 (fun b hbb=>by rw [hK] at hbb;cases hbb) (h3.1 _ (List.mem_singleton.2 rfl)).2
 exact ⟨r,cr,_,G',⟨hp,rfl⟩,he,g1,g2,by rw [hb];exact g3,g4,AbsOK.and hK g5 hk,by rw [hb];exact g6,o1,o2,o3,o4,by rw [hb];exact o5⟩
theorem FnA.right {P:Program} {f:FuncId} {args:List AV} {A K:Abs} {φ:AV→Prop} (hK:K.bs=[]) (h:FnA P f args [K] (fun r cs'=>φ r∧cs'=[K])):FnA P f args [andA A K] (fun r cs'=>φ r∧cs'=[andA A K]):=by
 refine ⟨h.1,fun G w c h1 h2 h3=>(h.2 G w c h1 h2 (h3.andR hK)).mono ?_⟩
 rintro e w' ⟨r,cr,cs',G',⟨hp,rfl⟩,he,g1,g2,g3,g4,g5,g6,o1,o2,o3,o4,o5⟩
 have hn:blocks [K]=[]:=by simp [blocks,hK]
 rw [hn] at g3 o5
 refine ⟨r,cr,_,G',⟨hp,rfl⟩,he,g1,g2,⟨fun b o v hv=>?_,fun b x hx=>?_⟩,g4,?_,fun b hb=>.inr hb,o1,o2,o3,o4,fun k hk hn2 hs=>o5 k hk (by simp) hs⟩
 ·rcases g3.1 b o v hv with h|h|h
  ·exact .inl h
  ·exact .inr (.inl h)
  ·cases h
 ·rcases g3.2 b x hx with h|h|h
  ·exact .inl h
  ·exact .inr (.inl h)
  ·cases h
 ·exact h3.keep g2 (fun b hb=>o5 b (h3.2.2 b hb).1 (by simp) (IM.free_still (h3.2.2 b hb).2)) o4 (fun b hb _ hf=>g3.free hb (by simp) hf)

theorem FnA.ofCallsK {P:Program} {F:Nat→Nat→Option Value} {f:FuncId} {avs:List AV} {vs:List Value} {x:AV} {v:Value} (hc:Callable P f) (ha:flatL avs=some vs) (hxi:∀ G,RepI G x v)
  (h:∀ w:World,(∀ b o u,F b o=some u→w.cell? ⟨b,o,none⟩=some u)→Calls P f vs.toArray w fun e w'=>e=.returned v∧Below w.heap.size w w'):FnA P f avs [knowsA F] (fun r cs'=>r=x∧cs'=[knowsA F]):=by
 refine ⟨hc,fun G w cargs him hr hok=>?_⟩
 rw [flatL_sound ha hr]
 have hk:=hok.1 _ (List.mem_singleton.2 rfl)
 refine (h w (fun b o u hu=>him.1 b o u (hk b o u hu))).mono ?_
 rintro e w' ⟨rfl,bel⟩
 have hsame:∀ k,k<w.heap.size→w'.heap[k]?=w.heap[k]?:=fun k hk=>bel.block k hk
 refine ⟨x,v,_,G,⟨rfl,rfl⟩,rfl,hxi G,IM.le_refl G,NewAt.of _ ⟨fun b o v h=>.inl h,fun b x h=>.inl h⟩,⟨fun b o u hu=>?_,fun b y hy=>?_⟩,hok.keep (IM.le_refl G) (fun b hb=>hsame b (hok.2.2 b hb).1) bel.size (fun b _ _ h=>h),fun b hb=>.inr hb,bel.os,bel.tape,bel.output,bel.size,fun k hk _ _=>hsame k hk⟩
 ·have h1:=him.1 b o u hu
  have h2:=Go.block_lt_of_cell h1
  simp only [World.cell?] at h1 ⊢
  rw [hsame b h2]
  exact h1
 ·have hy2:=him.2 b y hy
  exact hy2.keep0 (hsame b hy2.lt)
end Go.Sy

namespace Go.Proofs
open Go Go.Lib

def by_ (l:List UInt8) (i:Nat):Nat:=(l.getD i 0).toNat
theorem by_lt (l:List UInt8) (i:Nat):by_ l i<256:=by unfold by_;exact UInt8.toNat_lt _

def rn (l:List UInt8):Nat×Nat:=decodeN l.length (by_ l 0) (by_ l 1) (by_ l 2) (by_ l 3)
def wdN (q:Nat×Nat):Nat:=if q.1=65533∧q.2<2 then 0 else q.2
def wd (l:List UInt8):Nat:=wdN (rn l)

def pN (n b0 b1 b2 b3:Nat):Nat :=
 if b0<128 then 1
 else if b0 / 32=6∧1<n∧b1 / 64=2 then (if 128≤b0 % 32*64+b1 % 64 then 2 else 0)
 else if b0 / 16=14∧1<n∧b1 / 64=2∧2<n∧b2 / 64=2 then
  (if 2048≤b0 % 16*4096+b1 % 64*64+b2 % 64∧(b0 % 16*4096+b1 % 64*64+b2 % 64<55296∨57344≤b0 % 16*4096+b1 % 64*64+b2 % 64) then 3 else 0)
 else if b0 / 8=30∧1<n∧b1 / 64=2∧2<n∧b2 / 64=2∧3<n∧b3 / 64=2 then
  (if 65536≤b0 % 8*262144+b1 % 64*4096+b2 % 64*64+b3 % 64∧b0 % 8*262144+b1 % 64*4096+b2 % 64*64+b3 % 64≤1114111 then 4 else 0)
 else 0

theorem wdN_ite {c:Prop} [Decidable c] (v k:Nat) (hk:2≤k):wdN (if c then (v,k) else (65533,1))=if c then k else 0:=by
 split
 ·unfold wdN;rw [if_neg (by simp only [];omega)]
 ·rfl

set_option maxHeartbeats 2000000 in
theorem wdN_eq (n b0 b1 b2 b3:Nat) (h0:b0<256):wdN (decodeN n b0 b1 b2 b3)=pN n b0 b1 b2 b3:=by
 unfold decodeN pN
 by_cases c0:b0<128
 ·simp only [c0,if_true]
  unfold wdN
  rw [if_neg (by simp only [];omega)]
 simp only [c0,if_false]
 by_cases c1:b0 / 32=6∧1<n∧b1 / 64=2
 ·simp only [if_pos c1]
  rw [wdN_ite _ _ (by omega)]
 simp only [if_neg c1]
 by_cases c2:b0 / 16=14∧1<n∧b1 / 64=2∧2<n∧b2 / 64=2
 ·have c2':b0 / 16=14∧(1<n∧b1 / 64=2)∧2<n∧b2 / 64=2:=by omega
  simp only [if_pos c2,if_pos c2']
  rw [wdN_ite _ _ (by omega)]
  refine ite_congr (propext ⟨fun h=>by omega,fun h=>by omega⟩) (fun _=>rfl) (fun _=>rfl)
 have c2':¬ (b0 / 16=14∧(1<n∧b1 / 64=2)∧2<n∧b2 / 64=2):=by omega
 simp only [if_neg c2,if_neg c2']
 by_cases c3:b0 / 8=30∧1<n∧b1 / 64=2∧2<n∧b2 / 64=2∧3<n∧b3 / 64=2
 ·have c3':b0 / 8=30∧(1<n∧b1 / 64=2)∧(2<n∧b2 / 64=2)∧3<n∧b3 / 64=2:=by omega
  simp only [if_pos c3,if_pos c3']
  rw [wdN_ite _ _ (by omega)]
  refine ite_congr (propext ⟨fun h=>by omega,fun h=>by omega⟩) (fun _=>rfl) (fun _=>rfl)
 have c3':¬ (b0 / 8=30∧(1<n∧b1 / 64=2)∧(2<n∧b2 / 64=2)∧3<n∧b3 / 64=2):=by omega
 simp only [if_neg c3,if_neg c3']
 rfl

theorem wd_eq (l:List UInt8):wd l=pN l.length (by_ l 0) (by_ l 1) (by_ l 2) (by_ l 3):=wdN_eq _ _ _ _ _ (by_lt _ _)

theorem wd_len (l:List UInt8) (h:l≠[]):wd l≤l.length:=by
 have:0<l.length:=List.length_pos_iff.2 h
 rw [wd_eq];unfold pN
 repeat' split
 all_goals omega

def scanL:Nat→List UInt8→Nat→Int
 | 0,_,_=>-1
 | f+1,l,p=>if l=[] then -1 else if wd l=0 then p else scanL f (l.drop (wd l)) (p+wd l)
def cntF:Nat→List UInt8→Nat
 | 0,_=>0
 | f+1,l=>if l=[] then 0 else if wd l=0 then 0 else cntF f (l.drop (wd l))+1
def badL (l:List UInt8):Int:=scanL l.length l 0

theorem drop_lt (l:List UInt8) (h:l≠[]) (hw:wd l≠0):(l.drop (wd l)).length<l.length:=by
 have:0<l.length:=List.length_pos_iff.2 h
 rw [List.length_drop];omega

theorem scanL_fuel:∀ (f g:Nat) (l:List UInt8) (p:Nat),l.length≤f→l.length≤g→scanL f l p=scanL g l p
 | 0,0,l,p,_,_=>rfl
 | 0,g+1,l,p,hf,_=>by
  have:l=[]:=List.eq_nil_of_length_eq_zero (by omega)
  simp [scanL,this]
 | f+1,0,l,p,_,hg=>by
  have:l=[]:=List.eq_nil_of_length_eq_zero (by omega)
  simp [scanL,this]
 | f+1,g+1,l,p,hf,hg=>by
  simp only [scanL]
  split
  ·rfl
  ·rename_i h
   split
   ·rfl
   ·rename_i hw
    have:=drop_lt l h hw
    exact scanL_fuel f g _ _ (by omega) (by omega)

def scan (l:List UInt8) (p:Nat):Int:=scanL l.length l p
def cnt (l:List UInt8):Nat:=cntF l.length l
theorem scan_bad {l:List UInt8} (h:l≠[]) (hw:wd l=0) (p:Nat):scan l p=p:=by
 unfold scan
 obtain ⟨x,xs,rfl⟩:=List.exists_cons_of_ne_nil h
 simp only [List.length_cons,scanL,if_neg h,hw,if_true]
theorem scan_step {l:List UInt8} (h:l≠[]) (hw:wd l≠0) (p:Nat):scan l p=scan (l.drop (wd l)) (p+wd l):=by
 have h1:=drop_lt l h hw
 unfold scan
 obtain ⟨x,xs,rfl⟩:=List.exists_cons_of_ne_nil h
 simp only [List.length_cons,scanL,if_neg h,if_neg hw]
 simp only [List.length_cons] at h1
 exact scanL_fuel _ _ _ _ (by omega) (by omega)

end Go.Proofs
namespace Go.Proofs
open Go Go.Lib

end Go.Proofs

namespace Go.Proofs
open Go.Shelf
def Tryz.lays106_ren:Go.Shelf.Ren:=⟨fun|106=>163|213=>179|265=>190|n=>n,fun|9=>9|3=>3|n=>n,fun|n=>n⟩
theorem Tryz.lays106:Go.Proofs.Lays.n106 Tryz.prog Tryz.lays106_ren:={
 mixed:=by kernel_rfl
 f106:=Tryz.func163.trans (congrArg some (by kernel_rfl))
 f213:=Tryz.func179.trans (congrArg some (by kernel_rfl))
 f265:=Tryz.func190.trans (congrArg some (by kernel_rfl))
 t3:=Tryz.underlying3
 a3:=Tryz.isAgg3
 z3:=Tryz.sizeOf3
 v3:=Tryz.zeroValue3
 t9:=Tryz.underlying9
 a9:=Tryz.isAgg9
 z9:=Tryz.sizeOf9
 v9:=Tryz.zeroValue9 }
open Go.RowKit in
theorem Tryz.strings_Compare (a b:ByteArray) (w:World) :
  Calls Tryz.prog 163 #[.string a,.string b] w fun e w'=>e=.returned (.int .i64 (Lib.compareBytes a.data.toList b.data.toList))∧w'=w:=Any.strings_Compare Tryz.lays106 a b w
def Tryz.lays197_ren:Go.Shelf.Ren:=⟨fun|197=>161|260=>178|n=>n,fun|9=>9|21=>21|3=>3|4=>4|5=>5|105=>249|119=>264|0=>0|46=>193|139=>267|138=>266|n=>n,fun|3=>1|4=>2|n=>n⟩
theorem Tryz.lays197:Go.Proofs.Lays.n197 Tryz.prog Tryz.lays197_ren:={
 mixed:=by kernel_rfl
 f197:=Tryz.func161.trans (congrArg some (by kernel_rfl))
 f260:=Tryz.func178.trans (congrArg some (by kernel_rfl))
 t0:=Tryz.underlying0
 a0:=Tryz.isAgg0
 z0:=Tryz.sizeOf0
 v0:=Tryz.zeroValue0
 t3:=Tryz.underlying3
 a3:=Tryz.isAgg3
 z3:=Tryz.sizeOf3
 v3:=Tryz.zeroValue3
 t4:=Tryz.underlying4
 a4:=Tryz.isAgg4
 z4:=Tryz.sizeOf4
 v4:=Tryz.zeroValue4
 t5:=Tryz.underlying5
 a5:=Tryz.isAgg5
 z5:=Tryz.sizeOf5
 v5:=Tryz.zeroValue5
 t9:=Tryz.underlying9
 a9:=Tryz.isAgg9
 z9:=Tryz.sizeOf9
 v9:=Tryz.zeroValue9
 t21:=Tryz.underlying21
 a21:=Tryz.isAgg21
 z21:=Tryz.sizeOf21
 v21:=Tryz.zeroValue21
 t46:=Tryz.underlying193
 a46:=Tryz.isAgg193
 z46:=Tryz.sizeOf193
 v46:=Tryz.zeroValue193
 t105:=Tryz.underlying249
 a105:=Tryz.isAgg249
 z105:=Tryz.sizeOf249
 v105:=Tryz.zeroValue249
 t119:=Tryz.underlying264
 a119:=Tryz.isAgg264
 z119:=Tryz.sizeOf264
 t138:=Tryz.underlying266
 a138:=Tryz.isAgg266
 z138:=Tryz.sizeOf266
 v138:=Tryz.zeroValue266
 t139:=Tryz.underlying267
 a139:=Tryz.isAgg267
 z139:=Tryz.sizeOf267
 v139:=Tryz.zeroValue267
 g3:=by kernel_rfl
 g4:=by kernel_rfl }
open Go.RowKit in
theorem Tryz.utf8_DecodeRuneInString (s:ByteArray) (w:World) (hT:Lib.Utf8Tabs 1 2 w) :
  Calls Tryz.prog 161 #[.string s] w fun e w'=>e=.returned (.tuple #[.int .i32 (Lib.decodeGo s).1,.int .i64 (Lib.decodeGo s).2])∧Below w.heap.size w w':=Any.utf8_DecodeRuneInString Tryz.lays197 s w hT
end Go.Proofs

set_option maxRecDepth 100000
namespace Go.Proofs
open Go.Sy Go.Lib

theorem get_mk (l:List UInt8) (i:Nat):((ByteArray.mk l.toArray).get! i).toNat=by_ l i:=by
 unfold by_
 rw [show (ByteArray.mk l.toArray).get! i=l.toArray[i]! from rfl]
 congr 1
 rw [List.getD_eq_getElem?_getD]
 simp [Array.getElem!_eq_getD,Array.getD_eq_getD_getElem?]
 rfl
theorem by_drop (l:List UInt8) (p i:Nat):by_ (l.drop p) i=by_ l (p+i):=by
 unfold by_;rw [List.getD_eq_getElem?_getD,List.getD_eq_getElem?_getD,List.getElem?_drop]
theorem dec_rn (l:List UInt8) (p:Nat):Utf8.decode ⟨l.toArray⟩ p=rn (l.drop p):=by
 rw [decode_at,get_mk,get_mk,get_mk,get_mk,rn,by_drop,by_drop,by_drop,by_drop,List.length_drop,Go.Sy.len_S]
 rfl
theorem rn_pos (l:List UInt8):1≤(rn l).2:=by
 unfold rn decodeN
 repeat' split
 all_goals simp only []<;>omega
theorem wd_of_ne {l:List UInt8} (h:(rn l).1≠65533):wd l=(rn l).2:=by
 unfold wd wdN;rw [if_neg (by omega)]
theorem wd_of_two {l:List UInt8} (h:¬ (rn l).2<2):wd l=(rn l).2:=by
 unfold wd wdN;rw [if_neg (by omega)]
theorem wd_of_bad {l:List UInt8} (h:(rn l).1=65533) (h2:(rn l).2<2):wd l=0:=by
 unfold wd wdN;rw [if_pos ⟨h,h2⟩]

def utfT (b o:Nat):Option Value :=
 if b=1 then (if o<256 then some (.int .u8 (firstT o)) else none)
 else if b=2 then (if o<32 then (if o % 2=0 then some (.int .u8 (accLo (o / 2))) else some (.int .u8 (accHi (o / 2)))) else none)
 else none
theorem utfT_tabs {w:World} (h:∀ b o u,utfT b o=some u→w.cell? ⟨b,o,none⟩=some u):Lib.Utf8Tabs 1 2 w:=by
 refine ⟨fun c hc=>h 1 c _ (by simp [utfT,hc]),fun i hi=>⟨?_,?_⟩⟩
 ·refine h 2 (2*i) _ ?_
  simp [utfT,show 2*i<32 by omega,show 2*i % 2=0 by omega,show 2*i / 2=i by omega]
 ·refine h 2 (2*i+1) _ ?_
  simp [utfT,show 2*i+1<32 by omega,show (2*i+1) % 2=1 by omega,show (2*i+1) / 2=i by omega]
theorem utfT_of {w:World} (h:Lib.Utf8Tabs 1 2 w) (b o:Nat) (v:Value) (hv:utfT b o=some v):w.cell? ⟨b,o,none⟩=some v:=by
 unfold utfT at hv
 split at hv
 ·subst b
  split at hv
  ·rename_i ho
   cases hv
   exact h.1 o ho
  ·cases hv
 ·split at hv
  ·subst b
   split at hv
   ·rename_i ho
    have:=h.2 (o / 2) (by omega)
    split at hv
    ·rename_i he
     cases hv
     rw [show 2*(o / 2)=o by omega] at this
     exact this.1
    ·rename_i he
     cases hv
     rw [show 2*(o / 2)+1=o by omega] at this
     exact this.2
   ·cases hv
  ·cases hv
abbrev tabA:Abs:=knowsA utfT

theorem Decode_p (l:List UInt8) (hl:l≠[]):FnA Tryz.prog 161 [.s l] [tabA] (fun r cs'=>r=.tup [.v (.int .i32 (rn l).1),I64 (rn l).2]∧cs'=[tabA]):=by
 refine FnA.ofCallsK (vs:=[S l]) (v:=.tuple #[.int .i32 (rn l).1,.int .i64 (rn l).2]) ⟨_,Tryz.func161,rfl,by decide⟩ rfl (fun G=>by simp [RepI,RepIT]) (fun w hw=>?_)
 have h1:=Tryz.utf8_DecodeRuneInString ⟨l.toArray⟩ w (utfT_tabs hw)
 have h2:Lib.decodeGo ⟨l.toArray⟩=rn l:=by
  unfold Lib.decodeGo
  rw [if_neg (by rw [Go.Sy.len_S];exact fun h=>hl (List.eq_nil_of_length_eq_zero h)),dec_rn]
  rfl
 rw [h2] at h1
 exact h1

theorem Bad_A (l:List UInt8) (hl:l.length≤9223372036854775807):FnA Tryz.prog 145 [.s l] [tabA] (fun r cs'=>r=I64 (badL l)∧cs'=[tabA]):=by
 refine fnA Tryz.func145 fun X=>?_
 repeat (first|refine sc rfl ?_|refine so rfl ?_)
 refine O_range rfl rfl rfl rfl rfl rfl rfl ?_
 repeat (first|refine sc rfl ?_|refine so rfl ?_)
 refine C_loop (fun p:Nat=>⟨[(0,.s l),(8,.bp 8 0)],[.obj 8 (.stringIter ⟨l.toArray⟩ p),.abs tabA]⟩) (fun p=>p≤l.length∧scan (l.drop p) p=badL l) (fun p=>l.length-p) 0 ⟨by omega,rfl⟩ (Le.sub [8,1000000] ⟨rfl,rfl,trivial⟩ rfl) (fun p hp=>?_)
 repeat refine sc rfl ?_
 refine O_next rfl rfl rfl rfl (fun h=>?_) (fun h=>?_)
 ·rw [dec_rn]
  have hne:l.drop p≠[]:=fun he=>by
   have:=congrArg List.length he
   simp at this;omega
  have h1:=rn_pos (l.drop p)
  have h2:=wd_len (l.drop p) hne
  rw [List.length_drop] at h2
  repeat (first|refine sc rfl ?_|refine so rfl ?_)
  refine C_true rfl rfl ?_
  repeat (first|refine sc rfl ?_|refine so rfl ?_)
  refine C_if rfl (fun hc=>?_) (fun hc=>?_)
  ·have hc':(rn (l.drop p)).1≠65533:=by simp at hc;omega
   have hw:=wd_of_ne hc'
   repeat refine sc rfl ?_
   refine ⟨p+(rn (l.drop p)).2,⟨by omega,?_⟩,by omega,Le.sub [8,1000000] ⟨rfl,rfl,trivial⟩ rfl⟩
   rw [← hp.2,scan_step hne (by omega),hw,List.drop_drop]
  ·have hc':(rn (l.drop p)).1=65533:=by simp at hc;omega
   repeat (first|refine sc rfl ?_|refine so rfl ?_|refine sb rfl ?_|refine ⟨by omega,?_⟩)
   refine O_cA [1] (Decode_p (l.drop p) hne) ?_
   rintro q cs' ⟨rfl,rfl⟩
   repeat (first|refine sc rfl ?_|refine so rfl ?_)
   refine C_if rfl (fun hd=>?_) (fun hd=>?_)<;>simp only [decide_eq_true_eq,decide_eq_false_iff_not] at hd
   ·repeat (first|refine sc rfl ?_|refine so rfl ?_)
    refine ⟨_,[_],_,rfl,pickA_perm (is:=[0]) (As:=[_]) rfl,rfl,?_,rfl⟩
    rw [← hp.2,scan_bad hne (wd_of_bad hc' (by omega))]
   ·have hw:=wd_of_two (l:=l.drop p) (by omega)
    repeat refine sc rfl ?_
    refine ⟨p+(rn (l.drop p)).2,⟨by omega,?_⟩,by omega,Le.sub [8,1000000] ⟨rfl,rfl,trivial⟩ rfl⟩
    rw [← hp.2,scan_step hne (by omega),hw,List.drop_drop]
 ·repeat (first|refine sc rfl ?_|refine so rfl ?_)
  refine C_false rfl rfl ?_
  repeat (first|refine sc rfl ?_|refine so rfl ?_)
  refine ⟨_,[_],_,rfl,pickA_perm (is:=[1]) (As:=[_]) rfl,rfl,?_,rfl⟩
  rw [← hp.2,show l.drop p=[] from List.drop_eq_nil_of_le (by omega)]
  rfl

theorem Valid_A (l:List UInt8) (hl:l.length≤9223372036854775807):FnA Tryz.prog 117 [.s l] [tabA] (fun r cs'=>r=B (decide (badL l<0))∧cs'=[tabA]):=by
 refine fnA Tryz.func117 fun X=>?_
 repeat (first|refine sc rfl ?_|refine so rfl ?_)
 refine O_cA [0] (Bad_A l hl) ?_
 rintro q cs' ⟨rfl,rfl⟩
 repeat (first|refine sc rfl ?_|refine so rfl ?_)
 exact ⟨_,[_],_,rfl,pickA_perm (is:=[0]) (As:=[_]) rfl,rfl,rfl,rfl⟩
noncomputable def ValidV_F (l:List UInt8):Option Bool:=chk (l.length≤9223372036854775807) (some (decide (badL l<0)))
theorem ValidV_w (l:List UInt8) (r:Bool) (h:ValidV_F l=some r):FnA Tryz.prog 117 [.s l] [tabA] (fun x cs'=>x=B r∧cs'=[tabA]):=by
 unfold ValidV_F at h
 obtain ⟨hg,h⟩:=gT h
 obtain rfl:=osi h
 exact Valid_A l hg

theorem Compare_p (a b:List UInt8):FnP Tryz.prog 163 [.s a,.s b] (·=I64 (Lib.compareBytes a b)):=by
 refine FnP.ofCalls (vs:=[S a,S b]) (v:=.int .i64 (Lib.compareBytes a b)) ⟨_,Tryz.func163,rfl,by decide⟩ rfl rfl (fun G=>by simp only [RepI]) (fun w=>?_)
 have h1:=Tryz.strings_Compare ⟨a.toArray⟩ ⟨b.toArray⟩ w
 refine h1.mono ?_
 rintro e w' ⟨rfl,rfl⟩
 exact ⟨rfl,⟨rfl,rfl,rfl,Nat.le_refl _,fun _ _=>rfl⟩⟩
noncomputable def CompareS_F (a b:List UInt8):Option Int:=some (Lib.compareBytes a b)
theorem CompareS_w (a b:List UInt8) (r:Int) (h:CompareS_F a b=some r):FnP Tryz.prog 163 [.s a,.s b] (·=I64 r):=by
 obtain rfl:=osi h
 exact Compare_p a b
end Go.Proofs

namespace Go.Proofs
open Go.Sy Go.Lib

def shapeA (k:Int):AV :=
 if k=1 then .ifc 219 (.agg (Sgl.c ⟨0,1⟩)) else if k=2∨k=3 then .ifc 219 (.agg (Sgl.c ⟨-9223372036854775808,9223372036854775807⟩)) else if k=6 then .ifc 219 (.agg (Sgl.c ⟨0,9999⟩))
 else if k=4∨k=5 then .ifc 221 (.agg (Wds.c ⟨k == 4⟩)) else if k=7 then .ifc 222 (.agg (Mny.c ⟨⟩)) else if k=8 then .ifc 223 (.agg (Prs.c ⟨⟩))
 else if k=9 then .ifc 225 (.agg (Tgd.c ⟨0⟩)) else if k=10 then .ifc 225 (.agg (Tgd.c ⟨1⟩)) else .v .nilIface

theorem shape_c (k:Int):FnP Tryz.prog 82 [I64 k] (fun r=>r=shapeA k):=by
 refine fnP Tryz.func82 fun X=>?_
 repeat (first|refine sc rfl ?_|refine so rfl ?_)
 refine C_if rfl (fun c1=>?_) (fun c1=>?_)<;>simp only [pL] at c1
 ·skip
  repeat (first|refine O_Xd (X_ifc Tryz.underlying219 (fun ms h=>by cases h) rfl rfl rfl) ?_|refine sc rfl ?_|refine so rfl ?_|refine sb rfl ?_)
  exact ⟨_,rfl,rfl,by rw [shapeA,if_pos c1];rfl⟩
 repeat (first|refine sc rfl ?_|refine so rfl ?_)
 refine C_if rfl (fun c2=>?_) (fun c2=>?_)<;>simp only [pL] at c2
 ·repeat refine sc rfl ?_
  refine C_true rfl (by simpa using c2) ?_
  repeat (first|refine O_Xd (X_ifc Tryz.underlying219 (fun ms h=>by cases h) rfl rfl rfl) ?_|refine sc rfl ?_|refine so rfl ?_|refine sb rfl ?_)
  exact ⟨_,rfl,rfl,by rw [shapeA,if_neg c1,if_pos (.inl c2)];rfl⟩
 repeat (first|refine sc rfl ?_|refine so rfl ?_)
 refine C_if rfl (fun c3=>?_) (fun c3=>?_)<;>simp only [pL] at c3
 ·skip
  repeat (first|refine O_Xd (X_ifc Tryz.underlying219 (fun ms h=>by cases h) rfl rfl rfl) ?_|refine sc rfl ?_|refine so rfl ?_|refine sb rfl ?_)
  exact ⟨_,rfl,rfl,by rw [shapeA,if_neg c1,if_pos (.inr c3)];rfl⟩
 repeat (first|refine sc rfl ?_|refine so rfl ?_)
 refine C_if rfl (fun c6=>?_) (fun c6=>?_)<;>simp only [pL] at c6
 ·skip
  repeat (first|refine O_Xd (X_ifc Tryz.underlying219 (fun ms h=>by cases h) rfl rfl rfl) ?_|refine sc rfl ?_|refine so rfl ?_|refine sb rfl ?_)
  exact ⟨_,rfl,rfl,by rw [shapeA,if_neg c1,if_neg (by omega),if_pos c6];rfl⟩
 repeat (first|refine sc rfl ?_|refine so rfl ?_)
 refine C_if rfl (fun c4=>?_) (fun c4=>?_)<;>simp only [pL] at c4
 ·repeat refine sc rfl ?_
  refine C_true rfl (by simpa using c4) ?_
  repeat (first|refine O_Xd (X_ifc Tryz.underlying221 (fun ms h=>by cases h) rfl rfl rfl) ?_|refine sc rfl ?_|refine so rfl ?_|refine sb rfl ?_)
  exact ⟨_,rfl,rfl,by rw [shapeA,if_neg c1,if_neg (by omega),if_neg c6,if_pos (.inl c4)];rfl⟩
 repeat (first|refine sc rfl ?_|refine so rfl ?_)
 refine C_if rfl (fun c5=>?_) (fun c5=>?_)<;>simp only [pL] at c5
 ·skip
  repeat (first|refine O_Xd (X_ifc Tryz.underlying221 (fun ms h=>by cases h) rfl rfl rfl) ?_|refine sc rfl ?_|refine so rfl ?_|refine sb rfl ?_)
  exact ⟨_,rfl,rfl,by rw [shapeA,if_neg c1,if_neg (by omega),if_neg c6,if_pos (.inr c5)];rfl⟩
 repeat (first|refine sc rfl ?_|refine so rfl ?_)
 refine C_if rfl (fun c7=>?_) (fun c7=>?_)<;>simp only [pL] at c7
 ·skip
  repeat (first|refine O_Xd (X_ifc Tryz.underlying222 (fun ms h=>by cases h) rfl rfl rfl) ?_|refine sc rfl ?_|refine so rfl ?_|refine sb rfl ?_)
  exact ⟨_,rfl,rfl,by rw [shapeA,if_neg c1,if_neg (by omega),if_neg c6,if_neg (by omega),if_pos c7];rfl⟩
 repeat (first|refine sc rfl ?_|refine so rfl ?_)
 refine C_if rfl (fun c8=>?_) (fun c8=>?_)<;>simp only [pL] at c8
 ·skip
  repeat (first|refine O_Xd (X_ifc Tryz.underlying223 (fun ms h=>by cases h) rfl rfl rfl) ?_|refine sc rfl ?_|refine so rfl ?_|refine sb rfl ?_)
  exact ⟨_,rfl,rfl,by rw [shapeA,if_neg c1,if_neg (by omega),if_neg c6,if_neg (by omega),if_neg c7,if_pos c8];rfl⟩
 repeat (first|refine sc rfl ?_|refine so rfl ?_)
 refine C_if rfl (fun c9=>?_) (fun c9=>?_)<;>simp only [pL] at c9
 ·skip
  repeat (first|refine O_Xd (X_ifc Tryz.underlying225 (fun ms h=>by cases h) rfl rfl rfl) ?_|refine sc rfl ?_|refine so rfl ?_|refine sb rfl ?_)
  exact ⟨_,rfl,rfl,by rw [shapeA,if_neg c1,if_neg (by omega),if_neg c6,if_neg (by omega),if_neg c7,if_neg c8,if_pos c9];rfl⟩
 repeat (first|refine sc rfl ?_|refine so rfl ?_)
 refine C_if rfl (fun ca=>?_) (fun ca=>?_)<;>simp only [pL] at ca
 ·skip
  repeat (first|refine O_Xd (X_ifc Tryz.underlying225 (fun ms h=>by cases h) rfl rfl rfl) ?_|refine sc rfl ?_|refine so rfl ?_|refine sb rfl ?_)
  exact ⟨_,rfl,rfl,by rw [shapeA,if_neg c1,if_neg (by omega),if_neg c6,if_neg (by omega),if_neg c7,if_neg c8,if_neg c9,if_pos ca];rfl⟩
 repeat (first|refine sc rfl ?_|refine so rfl ?_)
 exact ⟨_,rfl,rfl,by rw [shapeA,if_neg c1,if_neg (by omega),if_neg c6,if_neg (by omega),if_neg c7,if_neg c8,if_neg c9,if_neg ca]⟩

def idxF (q:Val→Option Bool):List Val→Int→Option Int
 | [],_=>some (-1)
 | x::xs,i=>Option.bind (q x) (fun b=>cond b (some i) (idxF q xs (i+1)))

theorem IndexFunc_w (g:FuncId) (q:Val→Option Bool) (hq:∀ x r,q x=some r→FnA Tryz.prog g [.agg (Val.c x)] [tabA] (fun x cs'=>x=B r∧cs'=[tabA])) (vs:List Val) (hv:vs.length≤1000000) (r:Int) (h:idxF q vs 0=some r) :
  FnA Tryz.prog 120 [SL 5 Val.c vs,.v (.func (.func g) #[] #[])] [tabA] (fun x cs'=>x=I64 r∧cs'=[tabA]):=by
 refine fnA Tryz.func120 fun X=>?_
 repeat (first|refine sc rfl ?_|refine so rfl ?_)
 refine C_loop (fun i:Nat=>⟨[(0,SL 5 Val.c vs),(1,.v (.func (.func g) #[] #[])),(7,I64 (vs.length:Nat)),(8,I64 (i:Nat))],[.abs tabA]⟩) (fun i=>i≤vs.length∧idxF q (vs.drop i) (i:Nat)=some r) (fun i=>vs.length-i) 0 ⟨Nat.zero_le _,h⟩ (Le.sub [1000000] ⟨rfl,rfl,rfl,rfl,trivial⟩ rfl) ?_
 rintro i ⟨hi,hF⟩
 repeat (first|refine sc rfl ?_|refine so rfl ?_)
 refine C_if rfl (fun m1=>?_) (fun m1=>?_)<;>simp only [pL] at m1
 ·have hil:i<vs.length:=by omega
  rw [drop_at hil] at hF
  simp only [idxF] at hF
  obtain ⟨b,hb,hF⟩:=bT hF
  repeat (first|refine sc rfl ?_|refine so rfl ?_)
  refine ⟨by omega,?_⟩
  rw [Int.toNat_natCast]
  repeat refine so rfl ?_
  refine O_callAV (isClo_func g) rfl (avs:=[.agg (Val.c (vs.getD i default))]) (cs:=[tabA]) (cr:=[]) (by exact hq _ _ hb) rfl (by rfl) (by rfl) (by rfl) (.refl _) (by rfl) ?_
  rintro r' cs' ⟨rfl,rfl⟩
  repeat refine so rfl ?_
  cases b with
  | true =>
   obtain rfl:=osi hF
   refine C_true rfl rfl ?_
   repeat (first|refine sc rfl ?_|refine so rfl ?_)
   exact ⟨_,[_],_,rfl,pickA_perm (is:=[0]) (As:=[_]) rfl,rfl,rfl,rfl⟩
  | false =>
   refine C_false rfl rfl ?_
   repeat (first|refine sc rfl ?_|refine so rfl ?_)
   rw [w64 (x:=(i:Int)+1) (by omega) (by omega)]
   exact ⟨i+1,⟨hil,hF⟩,by omega,Le.sub [1000000] ⟨rfl,rfl,rfl,rfl,trivial⟩ rfl⟩
 ·obtain rfl:i=vs.length:=by omega
  rw [List.drop_length] at hF
  obtain rfl:=osi hF
  repeat (first|refine sc rfl ?_|refine so rfl ?_)
  exact ⟨_,[_],_,rfl,pickA_perm (is:=[0]) (As:=[_]) rfl,rfl,rfl,rfl⟩

theorem Contains_w (g:FuncId) (q:Val→Option Bool) (hq:∀ x r,q x=some r→FnA Tryz.prog g [.agg (Val.c x)] [tabA] (fun x cs'=>x=B r∧cs'=[tabA])) (vs:List Val) (hv:vs.length≤1000000) (r:Int) (h:idxF q vs 0=some r) :
  FnA Tryz.prog 83 [SL 5 Val.c vs,.v (.func (.func g) #[] #[])] [tabA] (fun x cs'=>x=B (decide (0≤r))∧cs'=[tabA]):=by
 refine fnA Tryz.func83 fun X=>?_
 repeat (first|refine sc rfl ?_|refine so rfl ?_)
 refine O_cA [0] (IndexFunc_w g q hq vs hv r h) ?_
 rintro r' cs' ⟨rfl,rfl⟩
 repeat (first|refine sc rfl ?_|refine so rfl ?_)
 exact ⟨_,[_],_,rfl,pickA_perm (is:=[0]) (As:=[_]) rfl,rfl,rfl,rfl⟩

theorem notWell_w (rec:Val→Option Bool) (hrec:∀ v r,rec v=some r→FnA Tryz.prog 42 [.agg (Val.c v)] [tabA] (fun x cs'=>x=B r∧cs'=[tabA])) (x:Val) (r:Bool) (h:Option.bind (rec x) (fun b=>some (!b))=some r) :
  FnA Tryz.prog 84 [.agg (Val.c x)] [tabA] (fun x cs'=>x=B r∧cs'=[tabA]):=by
 obtain ⟨b,hb,h⟩:=bT h
 obtain rfl:=osi h
 refine fnA Tryz.func84 fun X=>?_
 repeat (first|refine sc rfl ?_|refine so rfl ?_)
 refine O_cA [1] (hrec _ _ hb) ?_
 rintro r' cs' ⟨rfl,rfl⟩
 repeat (first|refine sc rfl ?_|refine so rfl ?_)
 exact ⟨_,[_],_,rfl,pickA_perm (is:=[0]) (As:=[_]) rfl,rfl,rfl,rfl⟩
end Go.Proofs

namespace Go.Proofs
open Go.Sy Go.Lib

noncomputable def IsNaNn_F (x:Int):Option (Bool) :=
 some (x != x)
theorem IsNaNn_w (x:Int) (r:Bool) (h:IsNaNn_F x=some r):FnP Tryz.prog 91 [I64 x] (·=B r):=by
 unfold IsNaNn_F at h
 refine fnP Tryz.func91 fun X=>?_
 iterate 2 refine sc rfl ?_
 refine so rfl ?_
 refine so rfl ?_
 iterate 2 refine sc rfl ?_
 iterate 4 refine so rfl ?_
 refine so rfl ?_
 refine sc rfl ?_
 obtain rfl:=osi h
 exact ⟨_,rfl,rfl,rfl⟩
noncomputable def CmpN_F (x:Int) (y:Int):Option (Int) :=
 Option.bind (IsNaNn_F  x) (fun r1=>Option.bind (IsNaNn_F  y) (fun r4=>cond r1 (cond r4 (some 0) (some (-1))) (cond r4 (some 1) (cond (decide (x<y)) (some (-1)) (cond (decide (y<x)) (some 1) (some 0))))))
theorem CmpN_w (x:Int) (y:Int) (r:Int) (h:CmpN_F x y=some r):FnP Tryz.prog 53 [I64 x,I64 y] (·=I64 r):=by
 unfold CmpN_F at h
 refine fnP Tryz.func53 fun X=>?_
 iterate 2 refine sc rfl ?_
 refine so rfl ?_
 refine so rfl ?_
 iterate 2 refine sc rfl ?_
 refine so rfl ?_
 obtain ⟨r1,hr2,h⟩:=bT h
 refine O_cP (IsNaNn_w  _ _ hr2) fun q3 hq3=>?_
 subst hq3
 refine so rfl ?_
 refine so rfl ?_
 iterate 2 refine sc rfl ?_
 refine so rfl ?_
 obtain ⟨r4,hr5,h⟩:=bT h
 refine O_cP (IsNaNn_w  _ _ hr5) fun q6 hq6=>?_
 subst hq6
 refine so rfl ?_
 refine so rfl ?_
 iterate 3 refine sc rfl ?_
 refine so rfl ?_
 refine so rfl ?_
 refine C_if rfl (fun hb7=>?_) (fun hb7=>?_)
 ·replace h:=cT hb7 h
  iterate 3 refine sc rfl ?_
  refine so rfl ?_
  refine so rfl ?_
  refine C_if rfl (fun hb8=>?_) (fun hb8=>?_)
  ·replace h:=cT hb8 h
   iterate 2 refine sc rfl ?_
   refine so rfl ?_
   refine so rfl ?_
   refine sc rfl ?_
   obtain rfl:=osi h
   exact ⟨_,rfl,rfl,rfl⟩
  ·replace h:=cF hb8 h
   iterate 3 refine sc rfl ?_
   refine so rfl ?_
   refine so rfl ?_
   refine sc rfl ?_
   obtain rfl:=osi h
   exact ⟨_,rfl,rfl,rfl⟩
 ·replace h:=cF hb7 h
  iterate 4 refine sc rfl ?_
  refine so rfl ?_
  refine so rfl ?_
  refine C_if rfl (fun hb9=>?_) (fun hb9=>?_)
  ·replace h:=cT hb9 h
   iterate 2 refine sc rfl ?_
   refine so rfl ?_
   refine so rfl ?_
   refine sc rfl ?_
   obtain rfl:=osi h
   exact ⟨_,rfl,rfl,rfl⟩
  ·replace h:=cF hb9 h
   iterate 4 refine sc rfl ?_
   iterate 3 refine so rfl ?_
   refine so rfl ?_
   refine C_if rfl (fun hb10=>?_) (fun hb10=>?_)
   ·replace h:=cT hb10 h
    iterate 2 refine sc rfl ?_
    refine so rfl ?_
    refine so rfl ?_
    refine sc rfl ?_
    obtain rfl:=osi h
    exact ⟨_,rfl,rfl,rfl⟩
   ·replace h:=cF hb10 h
    iterate 4 refine sc rfl ?_
    iterate 3 refine so rfl ?_
    refine so rfl ?_
    refine C_if rfl (fun hb11=>?_) (fun hb11=>?_)
    ·replace h:=cT hb11 h
     iterate 2 refine sc rfl ?_
     refine so rfl ?_
     refine so rfl ?_
     refine sc rfl ?_
     obtain rfl:=osi h
     exact ⟨_,rfl,rfl,rfl⟩
    ·replace h:=cF hb11 h
     iterate 3 refine sc rfl ?_
     refine so rfl ?_
     refine so rfl ?_
     refine sc rfl ?_
     obtain rfl:=osi h
     exact ⟨_,rfl,rfl,rfl⟩
noncomputable def CmpV_F (a:Val) (b:Val):Option (Int) :=
 cond (a.kind != b.kind) (Option.bind (CmpN_F  a.kind b.kind) (fun r2=>some r2)) (Option.bind (KeyedV_F a.kind) (fun r5=>cond (!r5) (some 0) (cond (a.kind == 4) (Option.bind (CompareS_F a.text b.text) (fun r10=>some r10)) (cond (a.kind == 3) (Option.bind (CmpU_F (IntKind.u64.wrap a.num) (IntKind.u64.wrap b.num)) (fun r14=>some r14)) (Option.bind (CmpI_F a.num b.num) (fun r17=>some r17))))))
theorem CmpV_w (a:Val) (b:Val) (r:Int) (h:CmpV_F a b=some r):FnP Tryz.prog 146 [.agg (Val.c a),.agg (Val.c b)] (·=I64 r):=by
 unfold CmpV_F at h
 refine fnP Tryz.func146 fun X=>?_
 iterate 2 refine sc rfl ?_
 refine so rfl ?_
 refine O_le _ (Le.freezebox 2 rfl rfl rfl) ?_
 refine so rfl ?_
 refine O_le _ (Le.freezebox 3 rfl rfl rfl) ?_
 refine so rfl ?_
 refine so rfl ?_
 iterate 4 refine sc rfl ?_
 iterate 6 refine so rfl ?_
 refine so rfl ?_
 refine C_if rfl (fun hb1=>?_) (fun hb1=>?_)
 ·replace h:=cT hb1 h
  iterate 2 refine sc rfl ?_
  iterate 4 refine so rfl ?_
  obtain ⟨r2,hr3,h⟩:=bT h
  refine O_cP (CmpN_w  _ _ _ hr3) fun q4 hq4=>?_
  subst hq4
  refine so rfl ?_
  refine so rfl ?_
  refine sc rfl ?_
  obtain rfl:=osi h
  exact ⟨_,rfl,rfl,rfl⟩
 ·replace h:=cF hb1 h
  iterate 2 refine sc rfl ?_
  iterate 2 refine so rfl ?_
  obtain ⟨r5,hr6,h⟩:=bT h
  refine O_cP (KeyedV_w _ _ hr6) fun q7 hq7=>?_
  subst hq7
  iterate 2 refine so rfl ?_
  refine so rfl ?_
  refine C_if rfl (fun hb8=>?_) (fun hb8=>?_)
  ·replace h:=cT hb8 h
   iterate 2 refine sc rfl ?_
   refine so rfl ?_
   refine so rfl ?_
   refine sc rfl ?_
   obtain rfl:=osi h
   exact ⟨_,rfl,rfl,rfl⟩
  ·replace h:=cF hb8 h
   iterate 2 refine sc rfl ?_
   iterate 4 refine so rfl ?_
   refine so rfl ?_
   refine C_if rfl (fun hb9=>?_) (fun hb9=>?_)
   ·replace h:=cT hb9 h
    iterate 2 refine sc rfl ?_
    iterate 4 refine so rfl ?_
    obtain ⟨r10,hr11,h⟩:=bT h
    refine O_cP (CompareS_w _ _ _ hr11) fun q12 hq12=>?_
    subst hq12
    refine so rfl ?_
    refine so rfl ?_
    refine sc rfl ?_
    obtain rfl:=osi h
    exact ⟨_,rfl,rfl,rfl⟩
   ·replace h:=cF hb9 h
    iterate 2 refine sc rfl ?_
    iterate 4 refine so rfl ?_
    refine so rfl ?_
    refine C_if rfl (fun hb13=>?_) (fun hb13=>?_)
    ·replace h:=cT hb13 h
     iterate 2 refine sc rfl ?_
     iterate 6 refine so rfl ?_
     obtain ⟨r14,hr15,h⟩:=bT h
     refine O_cP (CmpU_w _ _ _ hr15) fun q16 hq16=>?_
     subst hq16
     refine so rfl ?_
     refine so rfl ?_
     refine sc rfl ?_
     obtain rfl:=osi h
     exact ⟨_,rfl,rfl,rfl⟩
    ·replace h:=cF hb13 h
     iterate 3 refine sc rfl ?_
     iterate 4 refine so rfl ?_
     obtain ⟨r17,hr18,h⟩:=bT h
     refine O_cP (CmpI_w _ _ _ hr18) fun q19 hq19=>?_
     subst hq19
     refine so rfl ?_
     refine so rfl ?_
     refine sc rfl ?_
     obtain rfl:=osi h
     exact ⟨_,rfl,rfl,rfl⟩
noncomputable def WdsV_F (sh:Wds) (v:Val):Option (Bool) :=
 Option.bind (α:=Bool) (Option.bind (BareV_F v) (fun r2=>cond r2 (cond (v.num == 0) (cond (!sh.right) (some true) (Option.bind (ValidV_F v.text) (fun r8=>some r8))) (some false)) (some false))) (fun m1=>some m1)
theorem WdsV_w  (sh:Wds) (v:Val) (r:Bool) (h:WdsV_F sh v=some r):FnA Tryz.prog 214 [.agg (Wds.c sh),.agg (Val.c v)] [tabA] (fun x cs'=>x=B r∧cs'=[tabA]):=by
 unfold WdsV_F at h
 refine fnA Tryz.func214 fun X=>?_
 iterate 2 refine sc rfl ?_
 refine so rfl ?_
 refine O_le _ (Le.freezebox 2 rfl rfl rfl) ?_
 refine so rfl ?_
 refine O_le _ (Le.freezebox 3 rfl rfl rfl) ?_
 refine so rfl ?_
 refine so rfl ?_
 refine sc rfl ?_
 obtain ⟨m1,hm1,h⟩:=bT h
 refine C_join ⟨[(4,B m1)],[.abs tabA]⟩ ?_ (fun s hm1s=>C_le _ hm1s ?_)
 ·refine sc rfl ?_
  refine so rfl ?_
  obtain ⟨r2,hr3,hm1⟩:=bT hm1
  refine O_cP (BareV_w _ _ hr3) fun q4 hq4=>?_
  subst hq4
  refine so rfl ?_
  refine O_case 7 rfl (fun hb5=>?_) (fun hb5=>?_)
  ·replace hm1:=cT hb5 hm1
   iterate 5 refine so rfl ?_
   refine O_case 12 rfl (fun hb6=>?_) (fun hb6=>?_)
   ·replace hm1:=cT hb6 hm1
    iterate 4 refine so rfl ?_
    refine O_case 16 rfl (fun hb7=>?_) (fun hb7=>?_)
    ·replace hm1:=cT hb7 hm1
     iterate 6 refine so rfl ?_
     refine so rfl ?_
     obtain rfl:=osi hm1
     exact Le.sub [1000000] ⟨rfl,trivial⟩ rfl
    ·replace hm1:=cF hb7 hm1
     iterate 2 refine so rfl ?_
     obtain ⟨r8,hr9,hm1⟩:=bT hm1
     refine O_cA [0] (ValidV_w _ _ hr9) ?_
     rintro q10 cs' ⟨rfl,rfl⟩
     iterate 3 refine so rfl ?_
     refine so rfl ?_
     obtain rfl:=osi hm1
     exact Le.sub [1000000] ⟨rfl,trivial⟩ rfl
   ·replace hm1:=cF hb6 hm1
    iterate 10 refine so rfl ?_
    refine so rfl ?_
    obtain rfl:=osi hm1
    exact Le.sub [1000000] ⟨rfl,trivial⟩ rfl
  ·replace hm1:=cF hb5 hm1
   iterate 15 refine so rfl ?_
   refine so rfl ?_
   obtain rfl:=osi hm1
   exact Le.sub [1000000] ⟨rfl,trivial⟩ rfl
 refine sc rfl ?_
 obtain rfl:=osi h
 exact ⟨_,[_],_,rfl,pickA_perm (is:=[0]) (As:=[_]) rfl,rfl,rfl,rfl⟩
noncomputable def PrsV_L7 (sh:Prs) (v:Val) (m1:Bool) (s7:Int):Option ((Int) ⊕ ((Bool) ⊕ (Unit))) :=
 cond (decide (s7<(v.items.length:Int))) (chk ((0:Int)≤s7∧s7<(v.items.length:Int)) (Option.bind (KeyedV_F ((v.items.getD (Int.toNat s7) default).kind)) (fun r15=>cond (!r15) (some (Sum.inr ((Sum.inl false)))) (cond (decide (0<s7)) (chk ((0:Int)≤0∧0<(v.items.length:Int)) (cond (((v.items.getD (Int.toNat s7) default).kind) != ((v.items.getD (Int.toNat 0) default).kind)) (some (Sum.inr ((Sum.inl false)))) (chk ((0:Int)≤(IntKind.i64.wrap (s7-2))∧(IntKind.i64.wrap (s7-2))<(v.items.length:Int)) (Option.bind (CmpV_F  (v.items.getD (Int.toNat (IntKind.i64.wrap (s7-2))) default) (v.items.getD (Int.toNat s7) default)) (fun r22=>cond (decide (0≤r22)) (some (Sum.inr ((Sum.inl false)))) (some (Sum.inl (IntKind.i64.wrap (s7+2))))))))) (some (Sum.inl (IntKind.i64.wrap (s7+2)))))))) (some (Sum.inr ((Sum.inr ()))))
noncomputable def PrsV_F (sh:Prs) (v:Val):Option (Bool) :=
 Option.bind (α:=Bool) (cond (v.num != 0) (some true) (cond (!(v.text == [])) (some true) (cond (decide (0<(v.tags.length:Int))) (some true) (chk ((2:Int)≠0) (some ((Int.tmod (v.items.length:Int) 2) != 0)))))) (fun m1=>cond m1 (some false) (Option.bind (Iter (PrsV_L7 sh v m1) 0) (Sum.elim (fun c25=>some c25) (fun b12=>some true))))
theorem PrsV_w (sh:Prs) (v:Val) (r:Bool) (h:PrsV_F sh v=some r):FnP Tryz.prog 216 [.agg (Prs.c (⟨⟩:Prs)),.agg (Val.c v)] (·=B r):=by
 unfold PrsV_F at h
 refine fnP Tryz.func216 fun X=>?_
 iterate 2 refine sc rfl ?_
 refine so rfl ?_
 refine O_le _ (Le.freezebox 2 rfl rfl rfl) ?_
 refine so rfl ?_
 refine O_le _ (Le.freezebox 3 rfl rfl rfl) ?_
 refine so rfl ?_
 refine so rfl ?_
 iterate 2 refine sc rfl ?_
 obtain ⟨m1,hm1,h⟩:=bT h
 refine C_join ⟨[(3,.cp [I64 v.kind,I64 v.num,.s v.text,SL 1 INTc v.tags,.sl v.items.length 5 (Val.rows v.items)]),(27,B m1)],[]⟩ ?_ (fun s hm1s=>C_le _ hm1s ?_)
 ·refine sc rfl ?_
  iterate 4 refine so rfl ?_
  refine O_case 10 rfl (fun hb2=>?_) (fun hb2=>?_)
  ·replace hm1:=cT hb2 hm1
   iterate 17 refine so rfl ?_
   refine so rfl ?_
   obtain rfl:=osi hm1
   exact Le.sub [] ⟨rfl,rfl,trivial⟩ rfl
  ·replace hm1:=cF hb2 hm1
   iterate 5 refine so rfl ?_
   refine O_case 15 rfl (fun hb3=>?_) (fun hb3=>?_)
   ·replace hm1:=cT hb3 hm1
    iterate 12 refine so rfl ?_
    refine so rfl ?_
    obtain rfl:=osi hm1
    exact Le.sub [] ⟨rfl,rfl,trivial⟩ rfl
   ·replace hm1:=cF hb3 hm1
    iterate 6 refine so rfl ?_
    refine O_case 21 rfl (fun hb4=>?_) (fun hb4=>?_)
    ·replace hm1:=cT hb4 hm1
     iterate 6 refine so rfl ?_
     refine so rfl ?_
     obtain rfl:=osi hm1
     exact Le.sub [] ⟨rfl,rfl,trivial⟩ rfl
    ·replace hm1:=cF hb4 hm1
     iterate 2 refine so rfl ?_
     refine O_le _ (Le.one 23 (SL 5 Val.c v.items) rfl (.row (Val.rows_eq _))) ?_
     refine so rfl ?_
     obtain ⟨g5,hm1⟩:=gT hm1
     refine so rfl (And.intro g5 ?_)
     iterate 2 refine so rfl ?_
     refine so rfl ?_
     obtain rfl:=osi hm1
     exact Le.sub [] ⟨rfl,rfl,trivial⟩ rfl
 refine C_if rfl (fun hb6=>?_) (fun hb6=>?_)
 ·replace h:=cT hb6 h
  iterate 2 refine sc rfl ?_
  refine so rfl ?_
  refine so rfl ?_
  refine sc rfl ?_
  obtain rfl:=osi h
  exact ⟨_,rfl,rfl,rfl⟩
 ·replace h:=cF hb6 h
  iterate 4 refine sc rfl ?_
  refine so rfl ?_
  refine so rfl ?_
  obtain ⟨o8,ho8,h⟩:=bT h
  refine C_joinP ((fun b12:Unit=>(⟨[],[]⟩:St)) (match o8 with|(.inl b12)=>default|(.inr b12)=>b12)) (∃ b,o8=(.inr b)) ?_ (fun s hs hp=>?_)
  ·refine sc rfl ?_
   refine C_iter (fun s7:Int=>⟨[(3,.cp [I64 v.kind,I64 v.num,.s v.text,SL 1 INTc v.tags,.sl v.items.length 5 (Val.rows v.items)]),(5,I64 s7)],[]⟩) ho8 (Le.sub [] ⟨rfl,rfl,trivial⟩ rfl) (fun s7 y9 hy10 hr11=>?_)
   unfold PrsV_L7 at hy10
   iterate 3 refine sc rfl ?_
   iterate 3 refine so rfl ?_
   refine O_le _ (Le.one 30 (SL 5 Val.c v.items) rfl (.row (Val.rows_eq _))) ?_
   iterate 2 refine so rfl ?_
   refine so rfl ?_
   refine C_if rfl (fun hb13=>?_) (fun hb13=>?_)
   ·replace hy10:=cT hb13 hy10
    iterate 5 refine sc rfl ?_
    iterate 2 refine so rfl ?_
    refine O_le _ (Le.one 36 (SL 5 Val.c v.items) rfl (.row (Val.rows_eq _))) ?_
    refine so rfl ?_
    obtain ⟨g14,hy10⟩:=gT hy10
    refine so rfl (And.intro g14 ?_)
    refine so rfl ?_
    iterate 2 refine so rfl ?_
    refine O_le _ (Le.freezebox 6 rfl rfl rfl) ?_
    refine so rfl ?_
    refine sc rfl ?_
    refine C_drawD rfl (by kernel_rfl) ?_
    iterate 2 refine sd rfl ?_
    obtain ⟨r15,hr16,hy10⟩:=bT hy10
    refine D_call (KeyedV_w _ _ hr16) rfl rfl rfl rfl ?_
    iterate 2 refine sd rfl ?_
    refine D_case 4 rfl (fun hb17=>?_) (fun hb17=>?_)
    ·replace hy10:=cT hb17 hy10
     iterate 24 refine sd rfl ?_
     refine sd rfl ?_
     refine C_true rfl rfl ?_
     iterate 2 refine sc rfl ?_
     refine so rfl ?_
     refine so rfl ?_
     refine sc rfl ?_
     obtain rfl:=osi hy10
     have ho82:=hr11 _ rfl
     subst ho82
     obtain rfl:=osi h
     exact ⟨_,rfl,rfl,rfl⟩
    ·replace hy10:=cF hb17 hy10
     iterate 3 refine sd rfl ?_
     refine D_case 7 rfl (fun hb18=>?_) (fun hb18=>?_)
     ·replace hy10:=cT hb18 hy10
      iterate 3 refine sd rfl ?_
      refine sdw (SL 5 Val.c v.items) rfl rfl rfl (.row (Val.rows_eq _)) ?_
      obtain ⟨g19,hy10⟩:=gT hy10
      refine sd rfl (And.intro g19 ?_)
      iterate 4 refine sd rfl ?_
      refine D_case 16 rfl (fun hb20=>?_) (fun hb20=>?_)
      ·replace hy10:=cT hb20 hy10
       iterate 12 refine sd rfl ?_
       refine sd rfl ?_
       refine C_true rfl rfl ?_
       iterate 2 refine sc rfl ?_
       refine so rfl ?_
       refine so rfl ?_
       refine sc rfl ?_
       obtain rfl:=osi hy10
       have ho82:=hr11 _ rfl
       subst ho82
       obtain rfl:=osi h
       exact ⟨_,rfl,rfl,rfl⟩
      ·replace hy10:=cF hb20 hy10
       refine sd rfl ?_
       refine sdw (SL 5 Val.c v.items) rfl rfl rfl (.row (Val.rows_eq _)) ?_
       iterate 2 refine sd rfl ?_
       obtain ⟨g21,hy10⟩:=gT hy10
       refine sd rfl (And.intro g21 ?_)
       iterate 2 refine sd rfl ?_
       obtain ⟨r22,hr23,hy10⟩:=bT hy10
       refine D_call (CmpV_w  _ _ _ hr23) rfl rfl rfl rfl ?_
       iterate 4 refine sd rfl ?_
       refine sd rfl ?_
       refine C_if rfl (fun hb24=>?_) (fun hb24=>?_)
       ·replace hy10:=cT hb24 hy10
        iterate 2 refine sc rfl ?_
        refine so rfl ?_
        refine so rfl ?_
        refine sc rfl ?_
        obtain rfl:=osi hy10
        have ho82:=hr11 _ rfl
        subst ho82
        obtain rfl:=osi h
        exact ⟨_,rfl,rfl,rfl⟩
       ·replace hy10:=cF hb24 hy10
        iterate 2 refine sc rfl ?_
        iterate 3 refine so rfl ?_
        refine so rfl ?_
        obtain rfl:=osi hy10
        exact ⟨_,rfl,Le.sub [] ⟨rfl,rfl,trivial⟩ rfl⟩
     ·replace hy10:=cF hb18 hy10
      iterate 21 refine sd rfl ?_
      refine sd rfl ?_
      refine C_false rfl rfl ?_
      iterate 2 refine sc rfl ?_
      iterate 3 refine so rfl ?_
      refine so rfl ?_
      obtain rfl:=osi hy10
      exact ⟨_,rfl,Le.sub [] ⟨rfl,rfl,trivial⟩ rfl⟩
   ·replace hy10:=cF hb13 hy10
    refine sc rfl ?_
    obtain rfl:=osi hy10
    have ho82:=hr11 _ rfl
    subst ho82
    exact ⟨Le.sub [] trivial rfl,⟨_,rfl⟩⟩
  obtain ⟨b12,rfl⟩:=hp
  refine C_le ⟨[],[]⟩ hs ?_
  iterate 2 refine sc rfl ?_
  refine so rfl ?_
  refine so rfl ?_
  refine sc rfl ?_
  obtain rfl:=osi h
  exact ⟨_,rfl,rfl,rfl⟩
end Go.Proofs

namespace Go.Proofs
open Go.Sy Go.Lib

noncomputable def vheadF (v:Val):Option Bool :=
 if v.kind=1 then SglV_F ⟨0,1⟩ v else if v.kind=2∨v.kind=3 then SglV_F ⟨-9223372036854775808,9223372036854775807⟩ v else if v.kind=6 then SglV_F ⟨0,9999⟩ v
 else if v.kind=4∨v.kind=5 then WdsV_F ⟨v.kind == 4⟩ v else if v.kind=7 then MnyV_F ⟨⟩ v else if v.kind=8 then PrsV_F ⟨⟩ v
 else if v.kind=9 then TgdV_F ⟨0⟩ v else if v.kind=10 then TgdV_F ⟨1⟩ v else some false
noncomputable def vnotq (rec:Val→Option Bool) (x:Val):Option Bool:=Option.bind (rec x) (fun b=>some (!b))
noncomputable def vtailF (rec:Val→Option Bool) (v:Val) (h:Bool):Option Bool:=cond h (Option.bind (idxF (vnotq rec) v.items 0) (fun r=>some (!(decide (0≤r))))) (some false)

theorem inv_sgl : Invokes Tryz.prog 219 "concourse/value.well" 212 := fun v args w => by rfl
theorem inv_wds : Invokes Tryz.prog 221 "concourse/value.well" 214 := fun v args w => by rfl
theorem inv_mny : Invokes Tryz.prog 222 "concourse/value.well" 215 := fun v args w => by rfl
theorem inv_prs : Invokes Tryz.prog 223 "concourse/value.well" 216 := fun v args w => by rfl
theorem inv_tgd : Invokes Tryz.prog 225 "concourse/value.well" 217 := fun v args w => by rfl

theorem Well_core (rec : Val → Option Bool) (hrec : ∀ v r, rec v = some r → FnA Tryz.prog 42 [.agg (Val.c v)] [tabA] (fun x cs' => x = B r ∧ cs' = [tabA])) (v : Val) (hv : v.items.length ≤ 1000000) (t : Nat) (y : AV) (f : FuncId) (hm : Invokes Tryz.prog t "concourse/value.well" f) (hs : shapeA v.kind = .ifc t y) (hy : y.imm = true)
  (h:Bool) (hf:FnA Tryz.prog f [y,.agg (Val.c v)] [tabA] (fun x cs'=>x=B h∧cs'=[tabA])) (r:Bool) (hr:vtailF rec v h=some r):FnA Tryz.prog 42 [.agg (Val.c v)] [tabA] (fun x cs'=>x=B r∧cs'=[tabA]):=by
 refine fnA Tryz.func42 fun X=>?_
 repeat (first|refine sc rfl ?_|refine so rfl ?_)
 refine O_cP (shape_c v.kind) fun r' hr'=>?_
 subst hr'
 rw [hs]
 repeat (first|refine O_Xd (X_ifcnil Tryz.underlying185 rfl rfl rfl) ?_|refine sc rfl ?_|refine so rfl ?_|refine sb rfl ?_)
 refine O_invoke [1] hm hf rfl (by rfl) (by rfl) (by simpa [AV.imm.immL] using ⟨hy,rfl⟩) (by rfl) (by rfl) ?_
 rintro r' cs' ⟨rfl,rfl⟩
 repeat refine so rfl ?_
 unfold vtailF at hr
 cases h with
 | false =>
  obtain rfl:=osi hr
  refine C_true rfl rfl ?_
  repeat (first|refine sc rfl ?_|refine so rfl ?_)
  exact ⟨_,[_],_,rfl,pickA_perm (is:=[0]) (As:=[_]) rfl,rfl,rfl,rfl⟩
 | true =>
  obtain ⟨q,hq,hr⟩:=bT hr
  obtain rfl:=osi hr
  refine C_false rfl rfl ?_
  repeat (first|refine O_le _ (Le.one 16 (SL 5 Val.c v.items) rfl (.row (Val.rows_eq _))) ?_|refine sc rfl ?_|refine so rfl ?_|refine sb rfl ?_)
  refine O_cA [0] (Contains_w 84 (vnotq rec) (fun x r h=>notWell_w rec hrec x r h) v.items hv q hq) ?_
  rintro r' cs' ⟨rfl,rfl⟩
  repeat (first|refine sc rfl ?_|refine so rfl ?_)
  exact ⟨_,[_],_,rfl,pickA_perm (is:=[0]) (As:=[_]) rfl,rfl,rfl,rfl⟩

theorem Well_nil (v:Val) (hs:shapeA v.kind=.v .nilIface):FnA Tryz.prog 42 [.agg (Val.c v)] [tabA] (fun x cs'=>x=B false∧cs'=[tabA]):=by
 refine fnA Tryz.func42 fun X=>?_
 repeat (first|refine sc rfl ?_|refine so rfl ?_)
 refine O_cP (shape_c v.kind) fun r' hr'=>?_
 subst hr'
 rw [hs]
 repeat (first|refine O_Xd (X_nilifcnil Tryz.underlying185 rfl rfl rfl) ?_|refine sc rfl ?_|refine so rfl ?_|refine sb rfl ?_)
 refine C_true rfl rfl ?_
 repeat (first|refine sc rfl ?_|refine so rfl ?_)
 exact ⟨_,[_],_,rfl,pickA_perm (is:=[1]) (As:=[_]) rfl,rfl,rfl,rfl⟩

theorem Well_wb (rec:Val→Option Bool) (hrec:∀ v r,rec v=some r→FnA Tryz.prog 42 [.agg (Val.c v)] [tabA] (fun x cs'=>x=B r∧cs'=[tabA])) (v:Val) (hv:v.items.length≤1000000) (r:Bool) (h:Option.bind (vheadF v) (vtailF rec v)=some r) :
  FnA Tryz.prog 42 [.agg (Val.c v)] [tabA] (fun x cs'=>x=B r∧cs'=[tabA]):=by
 obtain ⟨b,hb,h⟩:=bT h
 unfold vheadF at hb
 by_cases c1:v.kind=1
 ·rw [if_pos c1] at hb
  exact Well_core rec hrec v hv _ _ _ inv_sgl (by rw [shapeA,if_pos c1]) rfl b ((SglV_w _ _ _ hb).toA [tabA]) r h
 rw [if_neg c1] at hb
 by_cases c2:v.kind=2∨v.kind=3
 ·rw [if_pos c2] at hb
  exact Well_core rec hrec v hv _ _ _ inv_sgl (by rw [shapeA,if_neg c1,if_pos c2]) rfl b ((SglV_w _ _ _ hb).toA [tabA]) r h
 rw [if_neg c2] at hb
 by_cases c6:v.kind=6
 ·rw [if_pos c6] at hb
  exact Well_core rec hrec v hv _ _ _ inv_sgl (by rw [shapeA,if_neg c1,if_neg c2,if_pos c6]) rfl b ((SglV_w _ _ _ hb).toA [tabA]) r h
 rw [if_neg c6] at hb
 by_cases c4:v.kind=4∨v.kind=5
 ·rw [if_pos c4] at hb
  exact Well_core rec hrec v hv _ _ _ inv_wds (by rw [shapeA,if_neg c1,if_neg c2,if_neg c6,if_pos c4]) rfl b (WdsV_w _ _ _ hb) r h
 rw [if_neg c4] at hb
 by_cases c7:v.kind=7
 ·rw [if_pos c7] at hb
  exact Well_core rec hrec v hv _ _ _ inv_mny (by rw [shapeA,if_neg c1,if_neg c2,if_neg c6,if_neg c4,if_pos c7]) rfl b ((MnyV_w _ _ _ hb).toA [tabA]) r h
 rw [if_neg c7] at hb
 by_cases c8:v.kind=8
 ·rw [if_pos c8] at hb
  exact Well_core rec hrec v hv _ _ _ inv_prs (by rw [shapeA,if_neg c1,if_neg c2,if_neg c6,if_neg c4,if_neg c7,if_pos c8]) rfl b ((PrsV_w _ _ _ hb).toA [tabA]) r h
 rw [if_neg c8] at hb
 by_cases c9:v.kind=9
 ·rw [if_pos c9] at hb
  exact Well_core rec hrec v hv _ _ _ inv_tgd (by rw [shapeA,if_neg c1,if_neg c2,if_neg c6,if_neg c4,if_neg c7,if_neg c8,if_pos c9]) rfl b ((TgdV_w _ _ _ hb).toA [tabA]) r h
 rw [if_neg c9] at hb
 by_cases ca:v.kind=10
 ·rw [if_pos ca] at hb
  exact Well_core rec hrec v hv _ _ _ inv_tgd (by rw [shapeA,if_neg c1,if_neg c2,if_neg c6,if_neg c4,if_neg c7,if_neg c8,if_neg c9,if_pos ca]) rfl b ((TgdV_w _ _ _ hb).toA [tabA]) r h
 rw [if_neg ca] at hb
 obtain rfl:=osi hb
 obtain rfl:=osi h
 exact Well_nil v (by rw [shapeA,if_neg c1,if_neg c2,if_neg c6,if_neg c4,if_neg c7,if_neg c8,if_neg c9,if_neg ca])

noncomputable def WellV_X:Nat→Val→Option Bool
 | 0,_=>none
 | n+1,v=>if v.items.length≤1000000 then Option.bind (vheadF v) (vtailF (WellV_X n) v) else none
theorem WellV_wn:∀ (n:Nat) (v:Val) (r:Bool),WellV_X n v=some r→FnA Tryz.prog 42 [.agg (Val.c v)] [tabA] (fun x cs'=>x=B r∧cs'=[tabA])
 | 0,_,_,h=>by cases h
 | n+1,v,r,h=>by
  simp only [WellV_X] at h
  split at h
  ·rename_i hv
   exact Well_wb (WellV_X n) (fun v r hr=>WellV_wn n v r hr) v hv r h
  ·cases h
theorem WellV_w (v:Val) (r:Bool) (h:WellV_X FU v=some r):FnA Tryz.prog 42 [.agg (Val.c v)] [tabA] (fun x cs'=>x=B r∧cs'=[tabA]):=WellV_wn FU v r h
end Go.Proofs

namespace Go.Proofs
open Go.Sy Go.Lib

abbrev vmA (b:Nat) (l:List Dcl):Abs:=andA (dscS b l) tabA
theorem vm_left {f:FuncId} {args:List AV} {b:Nat} {l:List Dcl} {x:AV} (h:FnA Tryz.prog f args [dscS b l] (fun r cs'=>r=x∧cs'=[dscS b l])):FnA Tryz.prog f args [vmA b l] (fun r cs'=>r=x∧cs'=[vmA b l]):=FnA.left rfl h
theorem vm_right {f:FuncId} {args:List AV} (b:Nat) (l:List Dcl) {x:AV} (h:FnA Tryz.prog f args [tabA] (fun r cs'=>r=x∧cs'=[tabA])):FnA Tryz.prog f args [vmA b l] (fun r cs'=>r=x∧cs'=[vmA b l]):=FnA.right rfl h
theorem vKind_w (b:Nat) (l:List Dcl) (hP:Prep l) (hW:WellL l) (nm:List UInt8) (r:Int) (h:DKind_F l nm=some r):FnA Tryz.prog 22 [PT b 0,.s nm] [vmA b l] (fun x cs'=>x=I64 r∧cs'=[vmA b l]):=vm_left (DKind_w b l hP hW nm r h)
theorem vRow_w (b:Nat) (l:List Dcl) (hP:Prep l) (hW:WellL l) (nm:List UInt8) (tag:Int) (r:Fld×Bool) (h:DRow_F2 l nm tag=some r):FnA Tryz.prog 30 [PT b 0,.s nm,I64 tag] [vmA b l] (fun x cs'=>x=.tup [.agg (Fld.c r.1),B r.2]∧cs'=[vmA b l]):=vm_left (DRow_w b l hP hW nm tag r h)
theorem vRows_w (b:Nat) (l:List Dcl) (hP:Prep l) (hW:WellL l) (nm:List UInt8) (r:List Fld) (h:DRows_F l nm=some r):FnA Tryz.prog 29 [PT b 0,.s nm] [vmA b l] (fun x cs'=>x=SL 5 Fld.c r∧cs'=[vmA b l]):=vm_left (DRows_w b l hP hW nm r h)
theorem vFits_w (b:Nat) (l:List Dcl) (hP:Prep l) (hW:WellL l) (t:Ty) (v:Val) (r:Int) (h:FFits_X l FU t v=some r):FnA Tryz.prog 44 [.cp [PT b 0],.agg (Ty.c t),.agg (Val.c v)] [vmA b l] (fun x cs'=>x=I64 r∧cs'=[vmA b l]):=vm_left (FFits_w b l hP hW t v r h)
theorem vWell_w (b:Nat) (l:List Dcl) (hP:Prep l) (hW:WellL l) (v:Val) (r:Bool) (h:WellV_X FU v=some r):FnA Tryz.prog 42 [.agg (Val.c v)] [vmA b l] (fun x cs'=>x=B r∧cs'=[vmA b l]):=vm_right b l (WellV_w v r h)
theorem vValid_w (b:Nat) (l:List Dcl) (hP:Prep l) (hW:WellL l) (s:List UInt8) (r:Bool) (h:ValidV_F s=some r):FnA Tryz.prog 117 [.s s] [vmA b l] (fun x cs'=>x=B r∧cs'=[vmA b l]):=vm_right b l (ValidV_w s r h)
end Go.Proofs

namespace Go.Proofs
open Go.Sy Go.Lib
abbrev U64 (n:Int):AV:=.v (.int .u64 n)

def vput (n:Nat):List UInt8:=if h:n<128 then [UInt8.ofNat n] else UInt8.ofNat (n % 128+128)::vput (n / 128)
termination_by n
decreasing_by omega
theorem vput_lt {n:Nat} (h:n<128):vput n=[UInt8.ofNat n]:=by rw [vput,dif_pos h]
theorem vput_ge {n:Nat} (h:¬ n<128):vput n=UInt8.ofNat (n % 128+128)::vput (n / 128):=by rw [vput,dif_neg h]

theorem u8wrap {x:Int} (h:0≤x) (h2:x<256):IntKind.u8.wrap x=x:=by
 simp only [IntKind.wrap,show IntKind.u8.signed=false from rfl,show IntKind.u8.bits=8 from rfl,Bool.false_and,Bool.false_eq_true,if_false]
 omega
theorem u64wrap {x:Int} (h:0≤x) (h2:x<18446744073709551616):IntKind.u64.wrap x=x:=by
 simp only [IntKind.wrap,show IntKind.u64.signed=false from rfl,show IntKind.u64.bits=64 from rfl,Bool.false_and,Bool.false_eq_true,if_false]
 omega

abbrev TK:=Nat×Nat×Int
def tkS:Nat→Bool→List UInt8→TK
 | 0,_,_=>(0,0,2)
 | _+1,_,[]=>(0,0,2)
 | f+1,z,c::r=>if (f=0∧1<c.toNat)∨(c.toNat=0∧z=true) then (0,0,1) else if c.toNat<128 then (c.toNat,1,0)
  else match tkS f true r with
   | (m,k,e)=>if e=0 then (c.toNat % 128+128*m,k+1,0) else (0,0,e)
def tk (l:List UInt8):TK:=tkS 10 false l
def comb (i n:Nat):TK→TK
 | (m,k,e)=>if e=0 then (n+128 ^ i*m,i+k,0) else (0,0,e)

theorem tkS_err:∀ (f:Nat) (z:Bool) (l:List UInt8),(tkS f z l).2.2≠0→(tkS f z l).1=0∧(tkS f z l).2.1=0
 | 0,_,_,_=>⟨rfl,rfl⟩
 | f+1,z,[],_=>⟨rfl,rfl⟩
 | f+1,z,c::r,h=>by
  simp only [tkS] at h ⊢
  split at h
  ·rename_i h1;rw [if_pos h1];exact ⟨rfl,rfl⟩
  ·rename_i h1
   rw [if_neg h1]
   split at h
   ·exact absurd rfl h
   ·rename_i h2
    rw [if_neg h2]
    split at h
    ·exact absurd rfl h
    ·rename_i h3
     simp only [h3,if_false]
     exact ⟨trivial,trivial⟩
theorem comb0 (t:TK) (h:t.2.2≠0→t.1=0∧t.2.1=0):comb 0 0 t=t:=by
 obtain ⟨m,k,e⟩:=t
 unfold comb
 by_cases he:e=0
 ·subst he;simp
 ·obtain ⟨h1,h2⟩:=h he
  simp only at h1 h2
  subst h1 h2
  simp [he]
theorem tk_comb (l:List UInt8):tk l=comb 0 0 (tkS 10 false (l.drop 0)):=by
 rw [comb0 _ (tkS_err _ _ _)];rfl

theorem comb_step {f i n:Nat} {z:Bool} {l:List UInt8} {c:Nat} (hi:i<l.length) (hc:by_ l i=c) (hok:¬ ((f=0∧1<c)∨(c=0∧z=true))) (h128:¬ c<128) :
  comb i n (tkS (f+1) z (l.drop i))=comb (i+1) (n+c % 128*128 ^ i) (tkS f true (l.drop (i+1))):=by
 rw [List.drop_eq_getElem_cons hi]
 have hcc:(l[i]).toNat=c:=by
  rw [← hc];unfold by_;rw [List.getD_eq_getElem?_getD,List.getElem?_eq_getElem hi];rfl
 simp only [tkS,hcc,if_neg hok,if_neg h128]
 obtain ⟨m,k,e⟩:=tkS f true (l.drop (i+1))
 simp only [comb]
 by_cases he:e=0
 ·subst he
  simp only [if_true]
  refine Prod.ext ?_ (Prod.ext ?_ rfl)
  ·simp only [Nat.pow_succ,Nat.mul_add,Nat.add_assoc]
   congr 1
   rw [Nat.mul_comm (c % 128),← Nat.mul_assoc]
  ·simp only [];omega
 ·simp only [he,if_false]
theorem comb_last {f i n:Nat} {z:Bool} {l:List UInt8} {c:Nat} (hi:i<l.length) (hc:by_ l i=c) (hok:¬ ((f=0∧1<c)∨(c=0∧z=true))) (h128:c<128) :
  comb i n (tkS (f+1) z (l.drop i))=(n+c % 128*128 ^ i,i+1,0):=by
 rw [List.drop_eq_getElem_cons hi]
 have hcc:(l[i]).toNat=c:=by
  rw [← hc];unfold by_;rw [List.getD_eq_getElem?_getD,List.getElem?_eq_getElem hi];rfl
 simp only [tkS,hcc,if_neg hok,if_pos h128,comb]
 simp only [if_true]
 rw [Nat.mod_eq_of_lt h128,Nat.mul_comm]
theorem comb_bad {f i n:Nat} {z:Bool} {l:List UInt8} {c:Nat} (hi:i<l.length) (hc:by_ l i=c) (hok:(f=0∧1<c)∨(c=0∧z=true)) :
  comb i n (tkS (f+1) z (l.drop i))=(0,0,1):=by
 rw [List.drop_eq_getElem_cons hi]
 have hcc:(l[i]).toNat=c:=by
  rw [← hc];unfold by_;rw [List.getD_eq_getElem?_getD,List.getElem?_eq_getElem hi];rfl
 simp only [tkS,hcc,if_pos hok,comb]
 simp
theorem comb_end {f i n:Nat} {z:Bool} {l:List UInt8} (h:l.length≤i∨f=0):comb i n (tkS f z (l.drop i))=(0,0,2):=by
 rcases h with h|h
 ·rw [List.drop_eq_nil_of_le h]
  cases f<;>simp [tkS,comb]
 ·subst h;simp [tkS,comb]

theorem byteN {m:Nat} (h:m<256):(UInt8.ofNat m).toNat=m:=by
 rw [UInt8.toNat_ofNat'];exact Nat.mod_eq_of_lt h
theorem tkS_put:∀ (f:Nat) (z:Bool) (n:Nat) (r:List UInt8),(z=true→0<n)→n<2*128 ^ f→tkS (f+1) z (vput n++r)=(n,(vput n).length,0):=by
 intro f
 induction f with
 | zero =>
  intro z n r hz hn
  have hn2:n<2:=by simpa using hn
  have hno:¬ ((0=0∧1<n)∨(n=0∧z=true)):=by
   rintro (⟨_,h2⟩|⟨h1,h2⟩)
   ·omega
   ·have:=hz h2;omega
  rw [vput_lt (by omega)]
  rw [List.cons_append,List.nil_append,tkS,byteN (by omega),if_neg hno,if_pos (by omega)]
  rfl
 | succ f ih =>
  intro z n r hz hn
  have hno:¬ ((f+1=0∧1<n)∨(n=0∧z=true)):=by
   rintro (⟨h1,h2⟩|⟨h1,h2⟩)
   ·omega
   ·have:=hz h2;omega
  by_cases h:n<128
  ·rw [vput_lt h]
   rw [List.cons_append,List.nil_append,tkS,byteN (by omega),if_neg hno,if_pos h]
   rfl
  ·rw [vput_ge (by omega)]
   rw [List.cons_append,tkS,byteN (by omega),if_neg (by omega),if_neg (by omega),ih true (n / 128) r (fun _=>by omega) (by rw [Nat.pow_succ] at hn;omega)]
   simp only [if_true,List.length_cons]
   refine Prod.ext ?_ rfl
   simp only []
   omega
theorem tk_put (n:Nat) (r:List UInt8) (hn:n<18446744073709551616):tk (vput n++r)=(n,(vput n).length,0) :=
 tkS_put 9 false n r (fun h=>by cases h) (by omega)

theorem or128 (n:Nat):bitsV .or .u8 (IntKind.u8.wrap (n:Int)) 128=((n % 128+128:Nat):Int):=by
 have hw:IntKind.u8.wrap (n:Int)=((n % 256:Nat):Int):=by
  simp only [IntKind.wrap,show IntKind.u8.signed=false from rfl,show IntKind.u8.bits=8 from rfl,Bool.false_and,Bool.false_eq_true,if_false]
  omega
 rw [hw]
 have:∀ m:Fin 256,bitsV .or .u8 ((m.val:Nat):Int) 128=((m.val % 128+128:Nat):Int):=by decide +kernel
 have h:=this ⟨n % 256,Nat.mod_lt _ (by omega)⟩
 simp only at h
 rw [h]
 omega

theorem vput_len2:∀ (k n:Nat),n<128 ^ (k+1)→(vput n).length≤k+1
 | 0,n,h=>by rw [vput_lt (by simpa using h)];simp
 | k+1,n,h=>by
  by_cases hn:n<128
  ·rw [vput_lt hn];simp
  ·rw [vput_ge hn,List.length_cons]
   have:n / 128<128 ^ (k+1):=by
    rw [Nat.div_lt_iff_lt_mul (by omega)]
    rw [Nat.pow_succ] at h
    exact h
   have:=vput_len2 k (n / 128) this
   omega
theorem vput_len10 {n:Nat} (h:n<18446744073709551616):(vput n).length≤10:=vput_len2 9 n (Nat.lt_of_lt_of_le h (by decide))

theorem byte_of {m:Nat} (h:m<256):((UInt8.ofNat m).toNat:Int)=(m:Int):=by
 rw [UInt8.toNat_ofNat_of_lt' (by simpa using h)]

theorem Put83_p (n:Nat) (hn:n<18446744073709551616):FnP Tryz.prog 112 [U64 (n:Int)] (·=.s (vput n)):=by
 refine fnP Tryz.func112 fun X=>?_
 repeat (first|refine sc rfl ?_|refine so rfl ?_|refine sb rfl ?_|refine C_scope ?_)
 refine C_loop (fun p:Nat×List UInt8=>⟨[(0,U64 (p.1:Int)),(3,.own 16)],[VEC 16 5 1 U8c p.2]⟩) (fun p=>p.1≤n∧p.2++vput p.1=vput n) (fun p=>p.1) (n,[]) ⟨Nat.le_refl _,rfl⟩
  ((Le.nilvec (α:=UInt8) U8c 3 16 5 1 rfl rfl rfl).trans (Le.sub [16] ⟨rfl,rfl,trivial⟩ rfl)) ?_
 rintro ⟨m,l⟩ ⟨hm,hl⟩
 simp only at hm hl
 have h10:=vput_len10 hn
 rw [← hl,List.length_append] at h10
 repeat (first|refine sc rfl ?_|refine so rfl ?_)
 refine C_if rfl (fun h=>?_) (fun h=>?_)<;>simp only [decide_eq_true_eq,decide_eq_false_iff_not] at h
 ·have hb:IntKind.u8.wrap (m:Int)=((UInt8.ofNat m).toNat:Int):=by rw [byte_of (by omega),u8wrap (by omega) (by omega)]
  iterate 2 refine sc rfl ?_
  repeat (first|refine so rfl ?_)
  rw [hb]
  repeat (first|refine sb rfl ?_)
  refine O_push U8c l (UInt8.ofNat m) [(0,U64 (m:Int))] rfl rfl rfl rfl rfl rfl rfl rfl rfl rfl ⟨rfl,trivial⟩ rfl rfl (by omega) (by simp only [maxLen];omega) ?_
  repeat (first|refine sc rfl ?_|refine so rfl ?_)
  refine O_text (l++[UInt8.ofNat m]) rfl rfl rfl rfl rfl (by rw [List.length_append,List.length_singleton];omega) rfl ?_
  repeat (first|refine sc rfl ?_|refine so rfl ?_)
  exact ⟨_,rfl,rfl,by rw [← hl,vput_lt (by omega)]⟩
 ·repeat (first|refine sc rfl ?_|refine so rfl ?_)
  rw [or128,← byte_of (show m % 128+128<256 by omega)]
  repeat (first|refine sb rfl ?_)
  refine O_push U8c l (UInt8.ofNat (m % 128+128)) [(0,U64 (m:Int))] rfl rfl rfl rfl rfl rfl rfl rfl rfl rfl ⟨rfl,trivial⟩ rfl rfl (by omega) (by simp only [maxLen];omega) ?_
  repeat (first|refine sc rfl ?_|refine so rfl ?_|refine ⟨by decide,?_⟩)
  have e1:(m:Int).fdiv (2 ^ min (Int.toNat 7) IntKind.u64.bits)=((m / 128:Nat):Int):=by
   rw [show (2:Int) ^ min (Int.toNat 7) IntKind.u64.bits=128 by decide,Int.fdiv_eq_ediv_of_nonneg _ (by decide)]
   omega
  rw [e1]
  repeat refine sc rfl ?_
  exact ⟨(m / 128,l++[UInt8.ofNat (m % 128+128)]),⟨by omega,by rw [← hl,vput_ge (show ¬ m<128 by omega),List.append_assoc];rfl⟩,by simp only;omega,Le.sub [16] ⟨rfl,rfl,trivial⟩ rfl⟩

abbrev tkA (t:TK):AV:=.tup [U64 (t.1:Nat),I64 (t.2.1:Nat),I64 t.2.2]

theorem or64 (n m i:Nat) (hn:n<128 ^ i) (h:n+m*128 ^ i<18446744073709551616):bitsV .or .u64 (n:Int) ((m*128 ^ i:Nat):Int)=((n+m*128 ^ i:Nat):Int):=by
 have h1:n ||| (m*128 ^ i)=n+m*128 ^ i:=by
  have h2:(128:Nat) ^ i=2 ^ (7*i):=by rw [Nat.pow_mul]
  rw [h2] at hn ⊢
  have:=Nat.two_pow_add_eq_or_of_lt hn m
  rw [Nat.mul_comm m,Nat.or_comm,← this,Nat.add_comm]
 simp only [bitsV]
 rw [show IntKind.u64.bits=64 from rfl,BitVec.toNat_or,BitVec.ofInt_natCast,BitVec.ofInt_natCast,BitVec.toNat_ofNat,BitVec.toNat_ofNat,Nat.mod_eq_of_lt (by omega),Nat.mod_eq_of_lt (by omega),h1]
 exact u64wrap (by omega) (by omega)
theorem and127 (c:Nat) (h:c<256):bitsV .and .u8 (c:Int) 127=((c % 128:Nat):Int):=by
 have h1:c &&& 127=c % 128:=by
  have:=Nat.and_two_pow_sub_one_eq_mod c 7
  simpa using this
 simp only [bitsV]
 rw [show IntKind.u8.bits=8 from rfl,BitVec.toNat_and,BitVec.ofInt_natCast,show (BitVec.ofInt 8 127)=BitVec.ofNat 8 127 from rfl,BitVec.toNat_ofNat,BitVec.toNat_ofNat,Nat.mod_eq_of_lt h,show 127 % 2 ^ 8=127 from rfl,h1]
 exact u8wrap (by omega) (by omega)
theorem pow_le9 {i:Nat} (h:i≤9):128 ^ i≤9223372036854775808:=by
 have:128 ^ i≤128 ^ 9:=Nat.pow_le_pow_right (by omega) h
 omega

theorem getD_by (l:List UInt8) (i:Nat):(l.getD i 0).toNat=by_ l i:=rfl
theorem vTake_p (l:List UInt8) (hl:l.length≤9223372036854775807):FnP Tryz.prog 77 [.s l] (·=tkA (tk l)):=by
 refine fnP Tryz.func77 fun X=>?_
 have fin:∀ (t:TK) (r:AV),tk l=t→r=tkA t→r=tkA (tk l):=fun t r h hr=>by rw [hr,h]
 repeat (first|refine sc rfl ?_|refine so rfl ?_|refine sb rfl ?_|refine C_scope ?_)
 refine C_loop (fun q:Nat×Nat=>⟨[(0,.s l),(10,I64 (min l.length 10:Nat)),(11,I64 (q.1:Nat)),(5,U64 (q.2:Nat))],[]⟩)
  (fun q=>q.1≤10∧q.1≤l.length∧q.2<128 ^ q.1∧tk l=comb q.1 q.2 (tkS (10-q.1) (decide (0<q.1)) (l.drop q.1))) (fun q=>10-q.1) (0,0) ⟨by decide,by simp only [];omega,by decide,tk_comb l⟩
  (Le.sub [] ⟨rfl,congrArg (fun x=>some (I64 x)) (by omega),rfl,rfl,trivial⟩ rfl) ?_
 rintro ⟨i,n⟩ ⟨hi10,hil,hn,ht⟩
 simp only [] at hi10 hil hn ht
 repeat (first|refine sc rfl ?_|refine so rfl ?_|refine sb rfl ?_|refine C_scope ?_)
 refine C_if rfl (fun h=>?_) (fun h=>?_)<;>simp only [decide_eq_true_eq,decide_eq_false_iff_not] at h
 ·have hi:i<l.length∧i<10:=by omega
  obtain ⟨f,hf⟩:∃ f,10-i=f+1:=⟨9-i,by omega⟩
  rw [hf] at ht
  obtain ⟨c,hc⟩:∃ c,by_ l i=c:=⟨_,rfl⟩
  have hc256:c<256:=by rw [← hc];exact by_lt l i
  repeat (first|refine sc rfl ?_|refine so rfl ?_|refine sb rfl ?_|refine C_scope ?_|refine ⟨by omega,?_⟩)
  rw [Int.toNat_natCast,getD_by,hc]
  have key:((f=0∧1<c)∨(c=0∧decide (0<i)=true))↔((i=9∧1<c)∨(c=0∧0<i)):=by simp only [decide_eq_true_eq];omega
  refine O_join ⟨[(0,.s l),(10,I64 (min l.length 10:Nat)),(11,I64 (i:Nat)),(5,U64 (n:Nat)),(6,I64 (i:Nat)),(7,.v (.int .u8 c)),(17,B (decide (i=9∧1<c)))],[]⟩ ?_ (fun s h=>C_le _ h ?_)
  ·have fin2:∀ x:Bool,x=decide (i=9∧1<c)→some (B x)=some (B (decide (i=9∧1<c))):=fun x hb=>by rw [hb]
   refine O_case 20 rfl (fun h5=>?_) (fun h5=>?_)<;>simp at h5<;>repeat refine so rfl ?_
   ·exact Le.sub [] ⟨rfl,rfl,rfl,rfl,rfl,rfl,fin2 _ (by rw [Bool.eq_iff_iff];simp;omega),trivial⟩ rfl
   ·exact Le.sub [] ⟨rfl,rfl,rfl,rfl,rfl,rfl,fin2 _ (by rw [Bool.eq_iff_iff];simp;omega),trivial⟩ rfl
  refine C_ifJ ⟨[(0,.s l),(10,I64 (min l.length 10:Nat)),(11,I64 (i:Nat)),(5,U64 (n:Nat)),(6,I64 (i:Nat)),(7,.v (.int .u8 c)),(17,B (decide ((i=9∧1<c)∨(c=0∧0<i))))],[]⟩ rfl (fun h1=>?_) (fun h1=>?_) (fun s h=>C_le _ h ?_)
  ·simp only [decide_eq_true_eq] at h1
   repeat refine sc rfl ?_
   exact Le.sub [] ⟨rfl,rfl,rfl,rfl,rfl,rfl,congrArg (fun x=>some (B x)) (by rw [Bool.eq_iff_iff];simp only [decide_eq_true_eq];omega),trivial⟩ rfl
  ·simp only [decide_eq_false_iff_not] at h1
   repeat (first|refine sc rfl ?_|refine so rfl ?_)
   have fin2:∀ x:Bool,x=decide ((i=9∧1<c)∨(c=0∧0<i))→some (B x)=some (B (decide ((i=9∧1<c)∨(c=0∧0<i)))):=fun x hb=>by rw [hb]
   refine O_case 26 rfl (fun h5=>?_) (fun h5=>?_)<;>simp at h5<;>repeat refine so rfl ?_
   ·exact Le.sub [] ⟨rfl,rfl,rfl,rfl,rfl,rfl,fin2 _ (by rw [Bool.eq_iff_iff];simp;omega),trivial⟩ rfl
   ·exact Le.sub [] ⟨rfl,rfl,rfl,rfl,rfl,rfl,fin2 _ (by rw [Bool.eq_iff_iff];simp;omega),trivial⟩ rfl
  repeat refine sc rfl ?_
  refine C_if rfl (fun h1=>?_) (fun h1=>?_)
  ·have h2:=key.2 (of_decide_eq_true h1)
   repeat (first|refine sc rfl ?_|refine so rfl ?_)
   exact ⟨_,rfl,rfl,fin (0,0,1) _ (by rw [ht,comb_bad hi.1 hc h2]) rfl⟩
  have h2:¬ ((f=0∧1<c)∨(c=0∧decide (0<i)=true)):=fun hh=>of_decide_eq_false h1 (key.1 hh)
  have hp9:=pow_le9 (i:=i) (by omega)
  have hm:c % 128*128 ^ i≤127*128 ^ i:=Nat.mul_le_mul_right _ (by omega)
  have hsum:n+c % 128*128 ^ i<18446744073709551616:=by
   by_cases h9:i=9
   ·subst h9
    have h3:c≤1:=by omega
    have h4:c % 128*128 ^ 9≤1*128 ^ 9:=Nat.mul_le_mul_right _ (by omega)
    omega
   ·have h4:128 ^ i≤128 ^ 8:=Nat.pow_le_pow_right (by omega) (by omega)
    omega
  repeat (first|refine sc rfl ?_|refine so rfl ?_|refine sb rfl ?_|refine ⟨by omega,?_⟩)
  rw [w64 (x:=7*(i:Int)) (by omega) (by omega)]
  refine ⟨by omega,?_⟩
  have hv:bitsV .or .u64 (n:Int) (IntKind.u64.wrap (IntKind.u64.wrap (bitsV .and .u8 (c:Int) 127)*2 ^ min (7*(i:Int)).toNat IntKind.u64.bits))=((n+c % 128*128 ^ i:Nat):Int):=by
   rw [and127 c hc256,u64wrap (x:=((c % 128:Nat):Int)) (by omega) (by omega),show IntKind.u64.bits=64 from rfl,show min (7*(i:Int)).toNat 64=7*i by omega]
   have h3:((c % 128:Nat):Int)*2 ^ (7*i)=((c % 128*128 ^ i:Nat):Int):=by
    have h2:(128:Nat) ^ i=2 ^ (7*i):=by rw [Nat.pow_mul]
    rw [h2]
    rw [Int.natCast_mul,Int.natCast_pow]
    rfl
   rw [h3,u64wrap (by omega) (by omega),or64 n _ i hn hsum]
  repeat (first|refine sc rfl ?_|refine so rfl ?_)
  rw [hv]
  repeat refine sc rfl ?_
  refine C_if rfl (fun h3=>?_) (fun h3=>?_)<;>simp only [decide_eq_true_eq,decide_eq_false_iff_not] at h3
  ·repeat (first|refine sc rfl ?_|refine so rfl ?_)
   rw [w64 (by omega) (by omega)]
   exact ⟨_,rfl,rfl,fin (n+c % 128*128 ^ i,i+1,0) _ (by rw [ht,comb_last hi.1 hc h2 (by omega)]) rfl⟩
  ·repeat (first|refine sc rfl ?_|refine so rfl ?_)
   rw [w64 (by omega) (by omega)]
   refine ⟨(i+1,n+c % 128*128 ^ i),⟨by simp only [];omega,by simp only [];omega,?_,?_⟩,by simp only [];omega,Le.sub [] ⟨rfl,rfl,rfl,rfl,trivial⟩ rfl⟩
   ·simp only [Nat.pow_succ]
    omega
   ·simp only []
    rw [ht,comb_step hi.1 hc h2 (by omega),show 10-(i+1)=f by omega,show decide (0<i+1)=true from decide_eq_true (by omega)]
 ·repeat (first|refine sc rfl ?_|refine so rfl ?_|refine sb rfl ?_|refine C_scope ?_)
  refine ⟨_,rfl,rfl,fin (0,0,2) _ ?_ rfl⟩
  rw [ht,comb_end (by omega)]

def pw (i:Nat):Nat:=if i≤9 then 128 ^ i else 0

end Go.Proofs

namespace Go.Proofs
open Go.Sy Go.Lib
def VTake_F (b:List UInt8):Option (Int×Int×Int):=chk (b.length≤9223372036854775807) (some (((tk b).1:Int),((tk b).2.1:Int),(tk b).2.2))
theorem VTake_w (b:List UInt8) (r:Int×Int×Int) (h:VTake_F b=some r):FnP Tryz.prog 77 [.s b] (·=.tup [.v (.int .u64 r.1),I64 r.2.1,I64 r.2.2]):=by
 unfold VTake_F at h
 obtain ⟨hg,h⟩:=gT h
 obtain rfl:=osi h
 exact vTake_p b hg
def VPut_F (n:Int):Option (List UInt8):=chk (0≤n∧n<18446744073709551616) (some (vput n.toNat))
theorem VPut_w (n:Int) (r:List UInt8) (h:VPut_F n=some r):FnP Tryz.prog 112 [.v (.int .u64 n)] (·=.s r):=by
 unfold VPut_F at h
 obtain ⟨⟨h0,h1⟩,h⟩:=gT h
 obtain rfl:=osi h
 have:=Put83_p n.toNat (by omega)
 rwa [Int.toNat_of_nonneg h0] at this
end Go.Proofs

namespace Go.Proofs
open Go.Sy Go.Lib

noncomputable def VTurn_F (n:Int):Option (Int) :=
 chk ((0:Int)≤1) (chk ((0:Int)≤63) (some (bitsV .xor .u64 (IntKind.u64.wrap ((IntKind.u64.wrap n)*2 ^ min (Int.toNat 1) IntKind.u64.bits)) (IntKind.u64.wrap (Int.fdiv n (2 ^ min (Int.toNat 63) IntKind.i64.bits))))))
theorem VTurn_w (n:Int) (r:Int) (h:VTurn_F n=some r):FnP Tryz.prog 138 [I64 n] (·=.v (.int .u64 r)):=by
 unfold VTurn_F at h
 refine fnP Tryz.func138 fun X=>?_
 iterate 2 refine sc rfl ?_
 refine so rfl ?_
 refine so rfl ?_
 iterate 2 refine sc rfl ?_
 iterate 2 refine so rfl ?_
 obtain ⟨g1,h⟩:=gT h
 refine so rfl (And.intro g1 ?_)
 refine so rfl ?_
 obtain ⟨g2,h⟩:=gT h
 refine so rfl (And.intro g2 ?_)
 iterate 3 refine so rfl ?_
 refine so rfl ?_
 refine sc rfl ?_
 obtain rfl:=osi h
 exact ⟨_,rfl,rfl,rfl⟩
noncomputable def VBack_F (n:Int):Option (Int) :=
 chk ((0:Int)≤1) (some (bitsV .xor .i64 (IntKind.i64.wrap (Int.fdiv n (2 ^ min (Int.toNat 1) IntKind.u64.bits))) (IntKind.i64.wrap (0-(IntKind.i64.wrap (bitsV .and .u64 n 1))))))
theorem VBack_w (n:Int) (r:Int) (h:VBack_F n=some r):FnP Tryz.prog 116 [.v (.int .u64 n)] (·=I64 r):=by
 unfold VBack_F at h
 refine fnP Tryz.func116 fun X=>?_
 iterate 2 refine sc rfl ?_
 refine so rfl ?_
 refine so rfl ?_
 iterate 2 refine sc rfl ?_
 refine so rfl ?_
 obtain ⟨g1,h⟩:=gT h
 refine so rfl (And.intro g1 ?_)
 iterate 7 refine so rfl ?_
 refine so rfl ?_
 refine sc rfl ?_
 obtain rfl:=osi h
 exact ⟨_,rfl,rfl,rfl⟩
noncomputable def KTagged_F (t:Int):Option (Bool) :=
 Option.bind (α:=Bool) (cond (decide (1≤t)) (some (decide (t≤255))) (some false)) (fun m1=>some m1)
theorem KTagged_w (t:Int) (r:Bool) (h:KTagged_F t=some r):FnP Tryz.prog 136 [I64 t] (·=B r):=by
 unfold KTagged_F at h
 refine fnP Tryz.func136 fun X=>?_
 iterate 2 refine sc rfl ?_
 refine so rfl ?_
 refine so rfl ?_
 refine sc rfl ?_
 obtain ⟨m1,hm1,h⟩:=bT h
 refine C_join ⟨[(2,B m1)],[]⟩ ?_ (fun s hm1s=>C_le _ hm1s ?_)
 ·refine sc rfl ?_
  iterate 3 refine so rfl ?_
  refine O_case 5 rfl (fun hb2=>?_) (fun hb2=>?_)
  ·replace hm1:=cT hb2 hm1
   iterate 4 refine so rfl ?_
   refine so rfl ?_
   obtain rfl:=osi hm1
   exact Le.sub [] ⟨rfl,trivial⟩ rfl
  ·replace hm1:=cF hb2 hm1
   iterate 4 refine so rfl ?_
   refine so rfl ?_
   obtain rfl:=osi hm1
   exact Le.sub [] ⟨rfl,trivial⟩ rfl
 refine sc rfl ?_
 obtain rfl:=osi h
 exact ⟨_,rfl,rfl,rfl⟩
noncomputable def KKnown_F (w:Int):Option (Bool) :=
 Option.bind (α:=Bool) (cond (w == 0) (some true) (some (w == 1))) (fun m1=>some m1)
theorem KKnown_w (w:Int) (r:Bool) (h:KKnown_F w=some r):FnP Tryz.prog 137 [I64 w] (·=B r):=by
 unfold KKnown_F at h
 refine fnP Tryz.func137 fun X=>?_
 iterate 2 refine sc rfl ?_
 refine so rfl ?_
 refine so rfl ?_
 refine sc rfl ?_
 obtain ⟨m1,hm1,h⟩:=bT h
 refine C_join ⟨[(2,B m1)],[]⟩ ?_ (fun s hm1s=>C_le _ hm1s ?_)
 ·refine sc rfl ?_
  iterate 3 refine so rfl ?_
  refine O_case 5 rfl (fun hb2=>?_) (fun hb2=>?_)
  ·replace hm1:=cT hb2 hm1
   iterate 4 refine so rfl ?_
   refine so rfl ?_
   obtain rfl:=osi hm1
   exact Le.sub [] ⟨rfl,trivial⟩ rfl
  ·replace hm1:=cF hb2 hm1
   iterate 4 refine so rfl ?_
   refine so rfl ?_
   obtain rfl:=osi hm1
   exact Le.sub [] ⟨rfl,trivial⟩ rfl
 refine sc rfl ?_
 obtain rfl:=osi h
 exact ⟨_,rfl,rfl,rfl⟩
end Go.Proofs

namespace Go.Proofs
open Go.Sy Go.Lib

noncomputable def VPutInt_F (n:Int):Option (List UInt8) :=
 Option.bind (VTurn_F n) (fun r1=>Option.bind (VPut_F r1) (fun r4=>some r4))
theorem VPutInt_w (n:Int) (r:List UInt8) (h:VPutInt_F n=some r):FnP Tryz.prog 111 [I64 n] (·=.s r):=by
 unfold VPutInt_F at h
 refine fnP Tryz.func111 fun X=>?_
 iterate 2 refine sc rfl ?_
 refine so rfl ?_
 refine so rfl ?_
 iterate 2 refine sc rfl ?_
 refine so rfl ?_
 obtain ⟨r1,hr2,h⟩:=bT h
 refine O_cP (VTurn_w _ _ hr2) fun q3 hq3=>?_
 subst hq3
 obtain ⟨r4,hr5,h⟩:=bT h
 refine O_cP (VPut_w _ _ hr5) fun q6 hq6=>?_
 subst hq6
 refine so rfl ?_
 refine so rfl ?_
 refine sc rfl ?_
 obtain rfl:=osi h
 exact ⟨_,rfl,rfl,rfl⟩
noncomputable def SpPut_F (s:List UInt8):Option (List UInt8) :=
 Option.bind (VPut_F (IntKind.u64.wrap (s.length:Int))) (fun r1=>chk (r1.length+s.length≤9223372036854775807) (some (r1++s)))
theorem SpPut_w (s:List UInt8) (r:List UInt8) (h:SpPut_F s=some r):FnP Tryz.prog 109 [.s s] (·=.s r):=by
 unfold SpPut_F at h
 refine fnP Tryz.func109 fun X=>?_
 iterate 2 refine sc rfl ?_
 refine so rfl ?_
 refine so rfl ?_
 iterate 2 refine sc rfl ?_
 iterate 3 refine so rfl ?_
 obtain ⟨r1,hr2,h⟩:=bT h
 refine O_cP (VPut_w _ _ hr2) fun q3 hq3=>?_
 subst hq3
 refine so rfl ?_
 obtain ⟨g4,h⟩:=gT h
 refine so rfl (And.intro g4 ?_)
 refine so rfl ?_
 refine so rfl ?_
 refine sc rfl ?_
 obtain rfl:=osi h
 exact ⟨_,rfl,rfl,rfl⟩
noncomputable def SpTake_F (b:List UInt8) (most:Int):Option (List UInt8×Int×Int) :=
 Option.bind (VTake_F b) (fun r1=>cond (r1.2.2 != 0) (some ([],0,r1.2.2)) (cond (decide ((IntKind.u64.wrap (max most 0))<r1.1)) (some ([],0,3)) (cond (decide ((IntKind.u64.wrap (IntKind.i64.wrap ((b.length:Int)-r1.2.1)))<r1.1)) (some ([],0,2)) (chk ((0:Int)≤r1.2.1∧r1.2.1≤(IntKind.i64.wrap (r1.2.1+(IntKind.i64.wrap r1.1)))∧(IntKind.i64.wrap (r1.2.1+(IntKind.i64.wrap r1.1)))≤(b.length:Int)) (some ((b.drop (Int.toNat r1.2.1)).take (Int.toNat (IntKind.i64.wrap (r1.2.1+(IntKind.i64.wrap r1.1)))-Int.toNat r1.2.1),IntKind.i64.wrap (r1.2.1+(IntKind.i64.wrap r1.1)),0))))))
theorem SpTake_w (b:List UInt8) (most:Int) (r:List UInt8×Int×Int) (h:SpTake_F b most=some r):FnP Tryz.prog 78 [.s b,I64 most] (·=.tup [.s r.1,I64 r.2.1,I64 r.2.2]):=by
 unfold SpTake_F at h
 refine fnP Tryz.func78 fun X=>?_
 iterate 2 refine sc rfl ?_
 iterate 3 refine so rfl ?_
 refine so rfl ?_
 iterate 2 refine sc rfl ?_
 refine so rfl ?_
 obtain ⟨r1,hr2,h⟩:=bT h
 refine O_cP (VTake_w _ _ hr2) fun q3 hq3=>?_
 subst hq3
 iterate 7 refine so rfl ?_
 refine so rfl ?_
 iterate 4 refine sc rfl ?_
 iterate 3 refine so rfl ?_
 refine so rfl ?_
 refine C_if rfl (fun hb4=>?_) (fun hb4=>?_)
 ·replace h:=cT hb4 h
  iterate 2 refine sc rfl ?_
  iterate 4 refine so rfl ?_
  refine so rfl ?_
  refine sc rfl ?_
  obtain rfl:=osi h
  exact ⟨_,rfl,rfl,rfl⟩
 ·replace h:=cF hb4 h
  iterate 2 refine sc rfl ?_
  iterate 6 refine so rfl ?_
  refine so rfl ?_
  refine C_if rfl (fun hb5=>?_) (fun hb5=>?_)
  ·replace h:=cT hb5 h
   iterate 2 refine sc rfl ?_
   iterate 3 refine so rfl ?_
   refine so rfl ?_
   refine sc rfl ?_
   obtain rfl:=osi h
   exact ⟨_,rfl,rfl,rfl⟩
  ·replace h:=cF hb5 h
   iterate 2 refine sc rfl ?_
   iterate 8 refine so rfl ?_
   refine so rfl ?_
   refine C_if rfl (fun hb6=>?_) (fun hb6=>?_)
   ·replace h:=cT hb6 h
    iterate 2 refine sc rfl ?_
    iterate 3 refine so rfl ?_
    refine so rfl ?_
    refine sc rfl ?_
    obtain rfl:=osi h
    exact ⟨_,rfl,rfl,rfl⟩
   ·replace h:=cF hb6 h
    iterate 3 refine sc rfl ?_
    iterate 5 refine so rfl ?_
    refine so rfl ?_
    iterate 2 refine sc rfl ?_
    iterate 3 refine so rfl ?_
    obtain ⟨g7,h⟩:=gT h
    refine so rfl (And.intro g7 ?_)
    iterate 4 refine so rfl ?_
    refine so rfl ?_
    refine sc rfl ?_
    obtain rfl:=osi h
    exact ⟨_,rfl,rfl,rfl⟩
noncomputable def KPut_F (t:Int) (w:Int):Option (List UInt8×Int) :=
 Option.bind (KTagged_F t) (fun r1=>cond (!r1) (some ([],9)) (Option.bind (KKnown_F w) (fun r5=>cond (!r5) (some ([],4)) (Option.bind (VPut_F (IntKind.u64.wrap (IntKind.i64.wrap ((IntKind.i64.wrap (2*t))+w)))) (fun r9=>some (r9,0))))))
theorem KPut_w (t:Int) (w:Int) (r:List UInt8×Int) (h:KPut_F t w=some r):FnP Tryz.prog 110 [I64 t,I64 w] (·=.tup [.s r.1,I64 r.2]):=by
 unfold KPut_F at h
 refine fnP Tryz.func110 fun X=>?_
 iterate 2 refine sc rfl ?_
 iterate 2 refine so rfl ?_
 refine so rfl ?_
 iterate 4 refine sc rfl ?_
 refine so rfl ?_
 obtain ⟨r1,hr2,h⟩:=bT h
 refine O_cP (KTagged_w _ _ hr2) fun q3 hq3=>?_
 subst hq3
 iterate 2 refine so rfl ?_
 refine so rfl ?_
 refine C_if rfl (fun hb4=>?_) (fun hb4=>?_)
 ·replace h:=cT hb4 h
  iterate 2 refine sc rfl ?_
  iterate 2 refine so rfl ?_
  refine so rfl ?_
  refine sc rfl ?_
  obtain rfl:=osi h
  exact ⟨_,rfl,rfl,rfl⟩
 ·replace h:=cF hb4 h
  iterate 2 refine sc rfl ?_
  refine so rfl ?_
  obtain ⟨r5,hr6,h⟩:=bT h
  refine O_cP (KKnown_w _ _ hr6) fun q7 hq7=>?_
  subst hq7
  iterate 2 refine so rfl ?_
  refine so rfl ?_
  refine C_if rfl (fun hb8=>?_) (fun hb8=>?_)
  ·replace h:=cT hb8 h
   iterate 2 refine sc rfl ?_
   iterate 2 refine so rfl ?_
   refine so rfl ?_
   refine sc rfl ?_
   obtain rfl:=osi h
   exact ⟨_,rfl,rfl,rfl⟩
  ·replace h:=cF hb8 h
   iterate 3 refine sc rfl ?_
   iterate 5 refine so rfl ?_
   obtain ⟨r9,hr10,h⟩:=bT h
   refine O_cP (VPut_w _ _ hr10) fun q11 hq11=>?_
   subst hq11
   iterate 2 refine so rfl ?_
   refine so rfl ?_
   refine sc rfl ?_
   obtain rfl:=osi h
   exact ⟨_,rfl,rfl,rfl⟩
noncomputable def KTake_F (b:List UInt8):Option (Int×Int×Int×Int) :=
 Option.bind (VTake_F b) (fun r1=>cond (r1.2.2 != 0) (some (0,0,0,r1.2.2)) (Option.bind (α:=Bool) (chk ((2:Int)≠0) (cond (decide (255<(IntKind.u64.wrap (Int.tdiv r1.1 2)))) (some true) (chk ((2:Int)≠0) (some ((IntKind.u64.wrap (Int.tdiv r1.1 2)) == 0))))) (fun m5=>cond m5 (some (0,0,0,9)) (chk ((2:Int)≠0) (chk ((2:Int)≠0) (some (IntKind.i64.wrap (IntKind.u64.wrap (Int.tdiv r1.1 2)),IntKind.i64.wrap (Int.tmod r1.1 2),r1.2.1,0)))))))
theorem KTake_w (b:List UInt8) (r:Int×Int×Int×Int) (h:KTake_F b=some r):FnP Tryz.prog 76 [.s b] (·=.tup [I64 r.1,I64 r.2.1,I64 r.2.2.1,I64 r.2.2.2]):=by
 unfold KTake_F at h
 refine fnP Tryz.func76 fun X=>?_
 iterate 2 refine sc rfl ?_
 iterate 4 refine so rfl ?_
 refine so rfl ?_
 iterate 2 refine sc rfl ?_
 refine so rfl ?_
 obtain ⟨r1,hr2,h⟩:=bT h
 refine O_cP (VTake_w _ _ hr2) fun q3 hq3=>?_
 subst hq3
 iterate 7 refine so rfl ?_
 refine so rfl ?_
 iterate 4 refine sc rfl ?_
 iterate 3 refine so rfl ?_
 refine so rfl ?_
 refine C_if rfl (fun hb4=>?_) (fun hb4=>?_)
 ·replace h:=cT hb4 h
  iterate 2 refine sc rfl ?_
  iterate 5 refine so rfl ?_
  refine so rfl ?_
  refine sc rfl ?_
  obtain rfl:=osi h
  exact ⟨_,rfl,rfl,rfl⟩
 ·replace h:=cF hb4 h
  refine sc rfl ?_
  obtain ⟨m5,hm5,h⟩:=bT h
  refine C_join ⟨[(6,.v (.int .u64 r1.1)),(7,I64 r1.2.1),(19,B m5)],[]⟩ ?_ (fun s hm5s=>C_le _ hm5s ?_)
  ·refine sc rfl ?_
   refine so rfl ?_
   obtain ⟨g6,hm5⟩:=gT hm5
   refine so rfl (And.intro g6 ?_)
   iterate 2 refine so rfl ?_
   refine O_case 23 rfl (fun hb7=>?_) (fun hb7=>?_)
   ·replace hm5:=cT hb7 hm5
    iterate 5 refine so rfl ?_
    refine so rfl ?_
    obtain rfl:=osi hm5
    exact Le.sub [] ⟨rfl,rfl,rfl,trivial⟩ rfl
   ·replace hm5:=cF hb7 hm5
    refine so rfl ?_
    obtain ⟨g8,hm5⟩:=gT hm5
    refine so rfl (And.intro g8 ?_)
    iterate 3 refine so rfl ?_
    refine so rfl ?_
    obtain rfl:=osi hm5
    exact Le.sub [] ⟨rfl,rfl,rfl,trivial⟩ rfl
  refine C_if rfl (fun hb9=>?_) (fun hb9=>?_)
  ·replace h:=cT hb9 h
   iterate 2 refine sc rfl ?_
   iterate 4 refine so rfl ?_
   refine so rfl ?_
   refine sc rfl ?_
   obtain rfl:=osi h
   exact ⟨_,rfl,rfl,rfl⟩
  ·replace h:=cF hb9 h
   iterate 3 refine sc rfl ?_
   refine so rfl ?_
   obtain ⟨g10,h⟩:=gT h
   refine so rfl (And.intro g10 ?_)
   iterate 2 refine so rfl ?_
   obtain ⟨g11,h⟩:=gT h
   refine so rfl (And.intro g11 ?_)
   iterate 6 refine so rfl ?_
   refine so rfl ?_
   refine sc rfl ?_
   obtain rfl:=osi h
   exact ⟨_,rfl,rfl,rfl⟩
noncomputable def KSkip_F (b:List UInt8) (w:Int):Option (Int×Int) :=
 cond (w == 0) (Option.bind (VTake_F b) (fun r2=>some (r2.2.1,r2.2.2))) (cond (w == 1) (Option.bind (SpTake_F  b (b.length:Int)) (fun r6=>Option.bind (α:=Int) (cond (r6.2.2 == 3) (some 2) (some r6.2.2)) (fun m9=>some (r6.2.1,m9)))) (some (0,4)))
theorem KSkip_w (b:List UInt8) (w:Int) (r:Int×Int) (h:KSkip_F b w=some r):FnP Tryz.prog 39 [.s b,I64 w] (·=.tup [I64 r.1,I64 r.2]):=by
 unfold KSkip_F at h
 refine fnP Tryz.func39 fun X=>?_
 iterate 2 refine sc rfl ?_
 iterate 2 refine so rfl ?_
 refine so rfl ?_
 iterate 3 refine sc rfl ?_
 refine so rfl ?_
 refine so rfl ?_
 iterate 3 refine sc rfl ?_
 iterate 2 refine so rfl ?_
 refine so rfl ?_
 refine C_if rfl (fun hb1=>?_) (fun hb1=>?_)
 ·replace h:=cT hb1 h
  iterate 2 refine sc rfl ?_
  refine so rfl ?_
  obtain ⟨r2,hr3,h⟩:=bT h
  refine O_cP (VTake_w _ _ hr3) fun q4 hq4=>?_
  subst hq4
  iterate 7 refine so rfl ?_
  refine so rfl ?_
  iterate 2 refine sc rfl ?_
  iterate 4 refine so rfl ?_
  refine so rfl ?_
  refine sc rfl ?_
  obtain rfl:=osi h
  exact ⟨_,rfl,rfl,rfl⟩
 ·replace h:=cF hb1 h
  iterate 2 refine sc rfl ?_
  iterate 2 refine so rfl ?_
  refine so rfl ?_
  refine C_if rfl (fun hb5=>?_) (fun hb5=>?_)
  ·replace h:=cT hb5 h
   iterate 2 refine sc rfl ?_
   iterate 3 refine so rfl ?_
   obtain ⟨r6,hr7,h⟩:=bT h
   refine O_cP (SpTake_w  _ _ _ hr7) fun q8 hq8=>?_
   subst hq8
   iterate 7 refine so rfl ?_
   refine so rfl ?_
   iterate 3 refine sc rfl ?_
   iterate 2 refine so rfl ?_
   refine so rfl ?_
   obtain ⟨m9,hm9,h⟩:=bT h
   refine C_join ⟨[(10,I64 r6.2.1),(11,I64 m9)],[]⟩ ?_ (fun s hm9s=>C_le _ hm9s ?_)
   ·refine C_if rfl (fun hb10=>?_) (fun hb10=>?_)
    ·replace hm9:=cT hb10 hm9
     refine sc rfl ?_
     refine so rfl ?_
     refine so rfl ?_
     obtain rfl:=osi hm9
     exact Le.sub [] ⟨rfl,rfl,trivial⟩ rfl
    ·replace hm9:=cF hb10 hm9
     refine sc rfl ?_
     obtain rfl:=osi hm9
     exact Le.sub [] ⟨rfl,rfl,trivial⟩ rfl
   iterate 2 refine sc rfl ?_
   iterate 4 refine so rfl ?_
   refine so rfl ?_
   refine sc rfl ?_
   obtain rfl:=osi h
   exact ⟨_,rfl,rfl,rfl⟩
  ·replace h:=cF hb5 h
   iterate 3 refine sc rfl ?_
   iterate 2 refine so rfl ?_
   refine so rfl ?_
   refine sc rfl ?_
   obtain rfl:=osi h
   exact ⟨_,rfl,rfl,rfl⟩
noncomputable def ENumber_F (v:Val):Option (List UInt8) :=
 cond (v.kind == 2) (Option.bind (VPutInt_F  v.num) (fun r2=>some r2)) (Option.bind (VPut_F (IntKind.u64.wrap v.num)) (fun r5=>some r5))
theorem ENumber_w (v:Val) (r:List UInt8) (h:ENumber_F v=some r):FnP Tryz.prog 69 [.agg (Val.c v)] (·=.s r):=by
 unfold ENumber_F at h
 refine fnP Tryz.func69 fun X=>?_
 iterate 2 refine sc rfl ?_
 refine so rfl ?_
 refine O_le _ (Le.freezebox 1 rfl rfl rfl) ?_
 refine so rfl ?_
 refine so rfl ?_
 iterate 3 refine sc rfl ?_
 iterate 3 refine so rfl ?_
 refine so rfl ?_
 refine C_if rfl (fun hb1=>?_) (fun hb1=>?_)
 ·replace h:=cT hb1 h
  iterate 2 refine sc rfl ?_
  iterate 2 refine so rfl ?_
  obtain ⟨r2,hr3,h⟩:=bT h
  refine O_cP (VPutInt_w  _ _ hr3) fun q4 hq4=>?_
  subst hq4
  refine so rfl ?_
  refine so rfl ?_
  refine sc rfl ?_
  obtain rfl:=osi h
  exact ⟨_,rfl,rfl,rfl⟩
 ·replace h:=cF hb1 h
  iterate 3 refine sc rfl ?_
  iterate 3 refine so rfl ?_
  obtain ⟨r5,hr6,h⟩:=bT h
  refine O_cP (VPut_w _ _ hr6) fun q7 hq7=>?_
  subst hq7
  refine so rfl ?_
  refine so rfl ?_
  refine sc rfl ?_
  obtain rfl:=osi h
  exact ⟨_,rfl,rfl,rfl⟩
noncomputable def DWire_F (l:List Dcl) (rec:Ty→Option (Int)) (t:Ty):Option (Int) :=
 Option.bind (α:=Bool) (cond (t.kind == 1) (some (t.kind == 1)) (cond (t.kind == 2) (some (t.kind == 2)) (some (t.kind == 3)))) (fun m1=>cond m1 (some 0) (cond (t.kind == 6) (Option.bind (DKind_F l t.name) (fun r6=>cond (r6 == 3) (some 0) (some 1))) (cond (t.kind == 9) (cond ((t.of.length:Int) == 1) (chk ((0:Int)≤0∧0<(t.of.length:Int)) (Option.bind (rec (t.of.getD (Int.toNat 0) default)) (fun r13=>some r13))) (some 1)) (some 1))))
theorem DWire_wb (b:Nat) (l:List Dcl) (hP:Prep l) (hW:WellL l) (rec:Ty→Option (Int)) (t:Ty) (r:Int) (hrec:∀ t r,rec t=some r→FnA Tryz.prog 40 [PT b 0,.agg (Ty.c t)] [vmA b l] (fun x cs'=>x=I64 r∧cs'=[vmA b l])) (h:DWire_F l rec t=some r):FnA Tryz.prog 40 [PT b 0,.agg (Ty.c t)] [vmA b l] (fun x cs'=>x=I64 r∧cs'=[vmA b l]):=by
 unfold DWire_F at h
 refine fnA Tryz.func40 fun X=>?_
 iterate 2 refine sc rfl ?_
 refine so rfl ?_
 refine O_le _ (Le.freezebox 3 rfl rfl rfl) ?_
 refine so rfl ?_
 refine so rfl ?_
 iterate 3 refine sc rfl ?_
 iterate 2 refine so rfl ?_
 refine so rfl ?_
 iterate 4 refine sc rfl ?_
 iterate 2 refine so rfl ?_
 refine so rfl ?_
 obtain ⟨m1,hm1,h⟩:=bT h
 refine C_join ⟨[(0,PT b 0),(3,.cp [I64 t.kind,.s t.name,.sl t.of.length 3 (Ty.rows t.of)]),(6,I64 t.kind),(7,B m1)],[.abs (vmA b l)]⟩ ?_ (fun s hm1s=>C_le _ hm1s ?_)
 ·refine C_if rfl (fun hb2=>?_) (fun hb2=>?_)
  ·replace hm1:=cT hb2 hm1
   refine sc rfl ?_
   obtain rfl:=osi hm1
   exact Le.sub [1000000] ⟨rfl,rfl,rfl,rfl,trivial⟩ rfl
  ·replace hm1:=cF hb2 hm1
   iterate 2 refine sc rfl ?_
   iterate 2 refine so rfl ?_
   refine so rfl ?_
   refine C_if rfl (fun hb3=>?_) (fun hb3=>?_)
   ·replace hm1:=cT hb3 hm1
    refine sc rfl ?_
    obtain rfl:=osi hm1
    exact Le.sub [1000000] ⟨rfl,rfl,rfl,rfl,trivial⟩ rfl
   ·replace hm1:=cF hb3 hm1
    refine sc rfl ?_
    iterate 2 refine so rfl ?_
    refine so rfl ?_
    obtain rfl:=osi hm1
    exact Le.sub [1000000] ⟨rfl,rfl,rfl,rfl,trivial⟩ rfl
 refine C_if rfl (fun hb4=>?_) (fun hb4=>?_)
 ·replace h:=cT hb4 h
  iterate 2 refine sc rfl ?_
  refine so rfl ?_
  refine so rfl ?_
  refine sc rfl ?_
  obtain rfl:=osi h
  exact ⟨_,[_],_,rfl,pickA_perm (is:=[0]) (As:=[_]) rfl,rfl,rfl,rfl⟩
 ·replace h:=cF hb4 h
  iterate 2 refine sc rfl ?_
  iterate 2 refine so rfl ?_
  refine so rfl ?_
  refine C_if rfl (fun hb5=>?_) (fun hb5=>?_)
  ·replace h:=cT hb5 h
   iterate 2 refine sc rfl ?_
   iterate 3 refine so rfl ?_
   obtain ⟨r6,hr7,h⟩:=bT h
   refine O_cA [0] (vKind_w b l hP hW _ _ hr7) ?_
   rintro q8 cs' ⟨rfl,rfl⟩
   refine so rfl ?_
   refine so rfl ?_
   refine C_if rfl (fun hb9=>?_) (fun hb9=>?_)
   ·replace h:=cT hb9 h
    iterate 2 refine sc rfl ?_
    refine so rfl ?_
    refine so rfl ?_
    refine sc rfl ?_
    obtain rfl:=osi h
    exact ⟨_,[_],_,rfl,pickA_perm (is:=[0]) (As:=[_]) rfl,rfl,rfl,rfl⟩
   ·replace h:=cF hb9 h
    iterate 3 refine sc rfl ?_
    refine so rfl ?_
    refine so rfl ?_
    refine sc rfl ?_
    obtain rfl:=osi h
    exact ⟨_,[_],_,rfl,pickA_perm (is:=[0]) (As:=[_]) rfl,rfl,rfl,rfl⟩
  ·replace h:=cF hb5 h
   iterate 2 refine sc rfl ?_
   iterate 2 refine so rfl ?_
   refine so rfl ?_
   refine C_if rfl (fun hb10=>?_) (fun hb10=>?_)
   ·replace h:=cT hb10 h
    iterate 2 refine sc rfl ?_
    iterate 2 refine so rfl ?_
    refine O_le _ (Le.one 21 (SL 3 Ty.c t.of) rfl (.row (Ty.rows_eq _))) ?_
    iterate 2 refine so rfl ?_
    refine so rfl ?_
    refine C_if rfl (fun hb11=>?_) (fun hb11=>?_)
    ·replace h:=cT hb11 h
     iterate 2 refine sc rfl ?_
     iterate 3 refine so rfl ?_
     refine O_le _ (Le.one 26 (SL 3 Ty.c t.of) rfl (.row (Ty.rows_eq _))) ?_
     obtain ⟨g12,h⟩:=gT h
     refine so rfl (And.intro g12 ?_)
     refine so rfl ?_
     obtain ⟨r13,hr14,h⟩:=bT h
     refine O_cA [0] (hrec _ _ hr14) ?_
     rintro q15 cs' ⟨rfl,rfl⟩
     refine so rfl ?_
     refine so rfl ?_
     refine sc rfl ?_
     obtain rfl:=osi h
     exact ⟨_,[_],_,rfl,pickA_perm (is:=[0]) (As:=[_]) rfl,rfl,rfl,rfl⟩
    ·replace h:=cF hb11 h
     iterate 3 refine sc rfl ?_
     refine so rfl ?_
     refine so rfl ?_
     refine sc rfl ?_
     obtain rfl:=osi h
     exact ⟨_,[_],_,rfl,pickA_perm (is:=[0]) (As:=[_]) rfl,rfl,rfl,rfl⟩
   ·replace h:=cF hb10 h
    iterate 3 refine sc rfl ?_
    refine so rfl ?_
    refine so rfl ?_
    refine sc rfl ?_
    obtain rfl:=osi h
    exact ⟨_,[_],_,rfl,pickA_perm (is:=[0]) (As:=[_]) rfl,rfl,rfl,rfl⟩
noncomputable def DWire_X (l:List Dcl):Nat→Ty→Option (Int)
 | 0=>fun _=>none
 | n+1=>DWire_F l (DWire_X l n)
theorem DWire_wn (b:Nat) (l:List Dcl) (hP:Prep l) (hW:WellL l):∀ (n:Nat) (t:Ty) (r:Int),DWire_X l n t=some r→FnA Tryz.prog 40 [PT b 0,.agg (Ty.c t)] [vmA b l] (fun x cs'=>x=I64 r∧cs'=[vmA b l])
 | 0,_,_,h=>by cases h
 | n+1,t,r,h=>DWire_wb b l hP hW (DWire_X l n) t r (fun t r hr=>DWire_wn b l hP hW n t r hr) h
theorem DWire_w (b:Nat) (l:List Dcl) (hP:Prep l) (hW:WellL l) (t:Ty) (r:Int) (h:DWire_X l FU t=some r):FnA Tryz.prog 40 [PT b 0,.agg (Ty.c t)] [vmA b l] (fun x cs'=>x=I64 r∧cs'=[vmA b l]):=DWire_wn b l hP hW FU t r h
end Go.Proofs

namespace Go.Sy
open Go.RowKit

def bufA (h:Value) (el:TypeId) (l:List UInt8):Abs where
 bs:=h.ownBlock.toList
 ok:=fun G w=>w.ownsRow 0 el 1 h l.length (Lib.byteCells l)
 keep:=fun {G H w w'} hG hb h1=>ownsRow_of_blocks h1 (fun b hbb=>hb b (by simp [hbb]))

def HdB (h:Value) (l:List UInt8):Prop:=(h=.slice none 0 0∧l=[])∨(l≠[]∧∃ g cc,h=HD g l.length cc)

section
variable {P:Program} {T:Tab} {X:Ctx P T} {n:Nat} {e:Env} {st:St} {a:Act} {w:World} {ops:Array Oper} {K:St→Prop}

theorem X_fromUnsafe (q:Nat) {p:Pl} {src dst' u:TypeId} {inf:TypeInfo} (hs:P.underlying src=some .unsafePointer) (hdd:P.underlying dst'=some (.pointer u)) (hu:P.info? u=some inf)
  {x:Operand} {b:Nat} {T':TypeId} {cells:List AV} {d:Option Nat} {ty:TypeId} {pos:String} {aft:Array Edge} {gd:Option (Nat×Bool)} {j:Nat} {Si:List (Nat×AV)} {c cr:List Ch}
  (hlies:liesAt P P.depth T' (cells.length / P.cellsOf T') 0 u 1=true)
  (hg:guardA ops ⟨Si,c⟩ ⟨d,.convert src dst' x,ty,pos,aft,gd⟩=some true) (hx:opd Si x=some (PT b 0)) (hp:nthA q c=some (boxA b T' cells,cr)) (hd:dstOK n d=true) :
  StepX X n ops p Si c c j ⟨d,.convert src dst' x,ty,pos,aft,gd⟩ (PT b 0) :=
 StepX.val hg hd (fun e a w S r r'=>by
  have h1:=opd_sound r' hx
  simp only [Rep] at h1
  obtain ⟨arr,h2,h3⟩:=(r.heap.nth hp).1
  have hl:arr.size=cells.length:=by have:=h3.len;simpa using this
  have hsh:w.shape? b=some (T',arr.size):=by simp [World.shape?,h2]
  refine ⟨.pointer (some ⟨b,0,none⟩),w,e,?_,r,by simp only [Rep]⟩
  have:=Lib.run_from_unsafe (P:=P) w (src:=src) (dst:=dst') ⟨b,0,none⟩ hs hdd hu hsh (by rw [hl];exact hlies)
  simp only [execOp,h1,Sem.run_bind,this,Result.andThen_ok,Sem.run_pure])

theorem X_noEscape {p : Pl} {f : FuncId} {fn : Func} (hf : P.funcs[f]? = some fn) (hname : (fn.name == "runtime.NumGoroutine") = false) (hb : fn.body.isNone = true) (hn : Extern.findNext fn = none)
  (he:Extern.find fn=some Extern.AbiNoEscape.same) {x:Operand} {b o:Nat} {d:Option Nat} {tys:Array TypeId} {ty:TypeId} {pos:String} {aft:Array Edge} {gd:Option (Nat×Bool)} {j:Nat} {Si:List (Nat×AV)} {c:List Ch}
  (hg:guardA ops ⟨Si,c⟩ ⟨d,.call ⟨.value (.func f),#[x],tys⟩,ty,pos,aft,gd⟩=some true) (hx:opd Si x=some (PT b o)) (hd:dstOK n d=true) :
  StepX X n ops p Si c c j ⟨d,.call ⟨.value (.func f),#[x],tys⟩,ty,pos,aft,gd⟩ (PT b o) :=
 StepX.val hg hd (fun e a w S r r'=>by
  have h1:=opd_sound r' hx
  simp only [Rep] at h1
  refine ⟨.pointer (some ⟨b,o,none⟩),w,e,run_ext a.eval rfl w w ?_,r,by simp only [Rep]⟩
  have:(callFunc f #[.pointer (some ⟨b,o,none⟩)]).run P w=.ok (.value (.pointer (some ⟨b,o,none⟩))) w:=by
   rw [run_callFunc_extern hf hname hb hn he]
   rfl
  simpa [h1] using this)

theorem append_block_str (t u ty el:Nat) (i:TypeInfo) (ht:P.underlying t=some (.slice el)) (hu:P.underlying u=some .string) (hi:P.info? el=some i) (hz:i.zero=some (.int .u8 0)) (hs1:i.size=1) (hby:i.bytes=1)
  (v:Value) (n:Nat) (xs:List Value) (hown:w.ownsRow 0 el 1 v n xs) (s:ByteArray) (h63:n+s.size≤maxLen) (hbytes:n+s.size≤140737488355328) {v':Value} {w':World}
  (hr:(Builtin.append_ #[t,u] ty #[v,.string s]).run P w=.ok v' w'):∀ b,v'.ownBlock=some b→some b=v.ownBlock∨w.heap.size≤b:=by
 have hsmall:n+s.size≤9223372036854775807:=by simp only [maxLen] at h63;omega
 have hxl:xs.length=n:=by simpa using hown.1
 rcases hown.2 with ⟨rfl,rfl⟩|⟨g,cap,cur,rfl,hbg,hg,hnc,hcm,hcs,htake⟩
 ·by_cases hm:s.size=0
  ·obtain ⟨v2,w2,hr2,h2,h3,h4⟩:=Lib.run_append_own_string (P:=P) w 0 t u ty el i ht hu hi hz hs1 hby (.slice none 0 0) 0 xs hown s h63 hbytes (Nat.zero_le _)
   rw [hr2] at hr
   simp only [Result.ok.injEq] at hr
   obtain ⟨rfl,_⟩:=hr
   rw [h4.2 ⟨rfl,hm⟩]
   intro b hb;simp [Value.ownBlock] at hb
  ·have hr':=run_append_nil_string (P:=P) w t u ty el i (.int .u8 0) ht hu hi hz s (by omega) (by omega) (by rw [hby];omega)
   rw [hr'] at hr
   simp only [Result.ok.injEq] at hr
   obtain ⟨rfl,_⟩:=hr
   intro b hb;simp [Value.ownBlock] at hb;omega
 ·by_cases hroom:n+s.size≤cap
  ·have hcs':cur.size=cap:=by simpa using hcs
   have hr':=Lib.run_append_room_string (P:=P) w t u ty el i ht hu hi hs1 g n cap cur hg s hroom (by omega)
   rw [hr'] at hr
   simp only [Result.ok.injEq] at hr
   obtain ⟨rfl,_⟩:=hr
   intro b hb;exact .inl hb.symm
  ·have holds:∀ (j:Nat) (u:Value),xs[j]?=some u→w.cell? ((⟨g,0,none⟩:Addr).add j)=some u:=hown.cells (g:=g) rfl
   have hr':=Lib.run_append_grow_string (P:=P) w t u ty el i (.int .u8 0) ht hu hi hz ⟨g,0,none⟩ n cap xs (by rw [hs1];simpa using hxl) holds s (by omega) (by omega) (by rw [hby];exact growslice_fits (by omega) (by omega))
   rw [hr'] at hr
   simp only [Result.ok.injEq] at hr
   obtain ⟨rfl,_⟩:=hr
   intro b hb;simp [Value.ownBlock] at hb;omega

theorem O_appendT (q:Nat) {dst:Nat} {so_ xo:Operand} {t u ty:TypeId} {pos:String} {aft:Array Edge} {rest:List Oper} {s:List (Nat×AV)} {c cr:List Ch} {h:Value} {el:Nat} {l m:List UInt8} {i:TypeInfo}
  (ht:P.underlying t=some (.slice el)) (hu:P.underlying u=some .string) (hi:P.info? el=some i) (hz:i.zero=some (.int .u8 0)) (hs1:i.size=1) (hby:i.bytes=1)
  (hso:opd s so_=some (.v h)) (hp:nthA q c=some (bufA h el l,cr)) (hxo:opd s xo=some (.s m)) (hd:Nat.blt dst n=true) (hH:HdB h l) (hlen:l.length+m.length≤140737488355328)
  (k:∀ v',HdB v' (l++m)→SymO X n ops rest ⟨(dst,.v v')::s,.abs (bufA v' el (l++m))::cr⟩ K) :
  SymO X n ops (⟨some dst,.call ⟨.builtin .append,#[so_,xo],#[t,u]⟩,ty,pos,aft,none⟩::rest) ⟨s,c⟩ K:=by
 intro e a w Q r hq
 have hso':=opd_sound r hso
 have hx:=opd_sound r hxo
 simp only [Rep] at hso' hx
 obtain ⟨g1,hgood,hnd⟩:=r.heap.nth hp
 have g1':w.ownsRow 0 el 1 h l.length (Lib.byteCells l):=g1
 have hperm:c.Perm ([bufA h el l].map Ch.abs++cr):=by simpa using nthA_perm hp
 have hbl:∀ B:Abs,blocks [B]=B.bs:=fun B=>by simp [blocks]
 have hsz:(ByteArray.mk m.toArray).size=m.length:=Go.Sy.len_S m
 have hml:l.length+(ByteArray.mk m.toArray).size≤maxLen:=by rw [hsz];simp only [maxLen];omega
 obtain ⟨v',w',hr,q2,q3,q4⟩:=Lib.run_append_own_string (P:=P) w 0 t u ty el i ht hu hi hz hs1 hby h l.length (Lib.byteCells l) g1' ⟨m.toArray⟩ hml (by rw [hsz];exact hlen) (Nat.zero_le _)
 have hblk:=append_block_str t u ty el i ht hu hi hz hs1 hby h l.length (Lib.byteCells l) g1' ⟨m.toArray⟩ hml (by rw [hsz];exact hlen) hr
 have hcells:Lib.byteCells l++Lib.strCells ⟨m.toArray⟩=Lib.byteCells (l++m):=by simp [Lib.byteCells,Lib.strCells]
 have hown:w'.ownsRow 0 el 1 v' (l++m).length (Lib.byteCells (l++m)):=by
  rw [hcells,hsz] at q2
  rw [List.length_append];exact q2
 have hrun:(execOp a.eval ⟨some dst,.call ⟨.builtin .append,#[so_,xo],#[t,u]⟩,ty,pos,aft,none⟩).run P w=.ok (.value v') w':=by
  simp only [execOp,resolve,invoke,builtin,Sem.run_bind,Sem.run_pure,Result.andThen_ok,List.map_toArray,List.map_cons,List.map_nil,hso',hx]
  simp only [S] at *
  simp only [hr,Result.andThen_ok,Sem.run_pure]
 have hH':HdB v' (l++m):=by
  rcases hown.2 with ⟨h1,h2⟩|⟨g,cap,cur,h1,_⟩
  ·exact .inl ⟨h1,List.eq_nil_of_length_eq_zero h2⟩
  ·by_cases hne:l++m=[]
   ·have hl0:l=[]:=(List.append_eq_nil_iff.1 hne).1
    have hm0:m=[]:=(List.append_eq_nil_iff.1 hne).2
    have hn:h=.slice none 0 0:=by
     rcases hH with ⟨h1,_⟩|⟨h1,_⟩
     ·exact h1
     ·exact absurd hl0 h1
    have:=q4.2 ⟨hn,by rw [hsz,hm0];rfl⟩
    rw [h1] at this;cases this
   ·exact .inr ⟨hne,g,cap,h1⟩
 unfold wpList
 rw [if_pos (by simp [Region.wanted])]
 refine .inl ?_
 unfold Oper.wp
 rw [hrun]
 have hno:∀ b,b∉(bufA h el l).bs→some b≠h.ownBlock:=fun b hb he=>hb (by simp [bufA,← he])
 have hin:∀ b,some b=h.ownBlock→b∈(bufA h el l).bs:=fun b hb=>by simp [bufA,← hb]
 have hmem:∀ b∈(bufA v' el (l++m)).bs,v'.ownBlock=some b:=fun b hb=>by simpa [bufA] using hb
 have r2:=r.swapAbs (st:=⟨s,c⟩) (As:=[bufA h el l]) (As':=[bufA v' el (l++m)]) (G':=e.G) (w':=w') hperm (IM.le_refl _) ⟨?_,?_⟩ ⟨fun b o v h=>.inl h,fun b x h=>.inl h⟩ ⟨?_,?_,?_⟩ ?_ ⟨q3.os,q3.tape,q3.output⟩ q3.size ?_
 ·exact k v' hH' _ _ _ Q (r2.put (x:=.v v') (v:=v') hd (by simp only [Rep])) hq
 ·intro b o v hv
  have h1:=r.im b o v hv
  simp only [World.cell?] at h1 ⊢
  rw [q3.block b (r.glt0 _ _ _ hv) (fun he=>by rw [(hgood b (hin b he)).2.2.1 o] at hv;cases hv)]
  exact h1
 ·exact r.mzKeep (fun b hb hf=>q3.block b hb (fun he=>hf (hgood b (hin b he)).2.2))
 ·intro B hB
  simp only [List.mem_singleton] at hB
  subst hB;exact hown
 ·rw [hbl]
  show (v'.ownBlock.toList).Nodup
  cases v'.ownBlock<;>simp
 ·intro b hb
  rw [hbl] at hb
  have hb1:=hmem b hb
  refine ⟨(hown.lt b hb1).2,?_⟩
  rcases hblk b hb1 with h2|h2
  ·exact (hgood b (hin b h2)).2.2
  ·exact r.free h2
 ·intro b hb
  rw [hbl] at hb ⊢
  rcases hblk b (hmem b hb) with h2|h2
  ·exact .inr (hin b h2)
  ·exact .inl h2
 ·intro b hb hnin _
  rw [hbl] at hnin
  exact q3.block b hb (fun he=>hno b hnin he)

theorem X_sliceData (q:Nat) {p:Pl} {x:Operand} {g cc:Nat} {el:TypeId} {l:List UInt8} {t:TypeId} {d:Option Nat} {ty:TypeId} {pos:String} {aft:Array Edge} {gd:Option (Nat×Bool)} {j:Nat} {Si:List (Nat×AV)} {c cr:List Ch}
  (hg:guardA ops ⟨Si,c⟩ ⟨d,.call ⟨.builtin .unsafeSliceData,#[x],#[t]⟩,ty,pos,aft,gd⟩=some true) (hx:opd Si x=some (.v (HD g l.length cc))) (hp:nthA q c=some (bufA (HD g l.length cc) el l,cr)) (hl:l≠[]) (hd:dstOK n d=true) :
  StepX X n ops p Si c c j ⟨d,.call ⟨.builtin .unsafeSliceData,#[x],#[t]⟩,ty,pos,aft,gd⟩ (PT g 0) :=
 StepX.val hg hd (fun e a w S r r'=>by
  have h1:=opd_sound r' hx
  simp only [Rep] at h1
  have hown:w.ownsRow 0 el 1 (HD g l.length cc) l.length (Lib.byteCells l):=(r.heap.nth hp).1
  have hc:cc≠0:=by
   rcases hown.2 with ⟨h2,h3⟩|⟨g2,cap,cur,h2,_,_,h3,_⟩
   ·exact absurd (List.eq_nil_of_length_eq_zero h3) hl
   ·simp only [HD,Value.slice.injEq] at h2
    obtain ⟨_,_,rfl⟩:=h2
    intro h0
    exact hl (List.eq_nil_of_length_eq_zero (by omega))
  refine ⟨.pointer (some ⟨g,0,none⟩),w,e,?_,r,by simp only [Rep]⟩
  have:=Lib.run_unsafeSliceData_row (P:=P) w #[t] ty ⟨g,0,none⟩ l.length cc hc
  simp only [execOp,resolve,invoke,builtin,Sem.run_bind,Sem.run_pure,Result.andThen_ok,List.map_toArray,List.map_cons,List.map_nil,h1]
  simp only [HD] at *
  simp only [this,Result.andThen_ok,Sem.run_pure])
theorem X_sliceData0 {p:Pl} {x:Operand} {t:TypeId} {d:Option Nat} {ty:TypeId} {pos:String} {aft:Array Edge} {gd:Option (Nat×Bool)} {j:Nat} {Si:List (Nat×AV)} {c:List Ch}
  (hg:guardA ops ⟨Si,c⟩ ⟨d,.call ⟨.builtin .unsafeSliceData,#[x],#[t]⟩,ty,pos,aft,gd⟩=some true) (hx:opd Si x=some (.v (.slice none 0 0))) (hd:dstOK n d=true) :
  StepX X n ops p Si c c j ⟨d,.call ⟨.builtin .unsafeSliceData,#[x],#[t]⟩,ty,pos,aft,gd⟩ (.v (.pointer none)) :=
 StepX.val hg hd (fun e a w S r r'=>by
  have h1:=opd_sound r' hx
  simp only [Rep] at h1
  refine ⟨.pointer none,w,e,?_,r,by simp only [Rep]⟩
  have:=Lib.run_unsafeSliceData_nil (P:=P) w #[t] ty 0 0
  simp only [execOp,resolve,invoke,builtin,Sem.run_bind,Sem.run_pure,Result.andThen_ok,List.map_toArray,List.map_cons,List.map_nil,h1,this])
theorem X_unsafeString0 {p:Pl} {x y:Operand} {t u:TypeId} {d:Option Nat} {ty:TypeId} {pos:String} {aft:Array Edge} {gd:Option (Nat×Bool)} {j:Nat} {Si:List (Nat×AV)} {c:List Ch}
  (hg:guardA ops ⟨Si,c⟩ ⟨d,.call ⟨.builtin .unsafeString,#[x,y],#[t,u]⟩,ty,pos,aft,gd⟩=some true) (hx:opd Si x=some (.v (.pointer none))) (hy:opd Si y=some (I64 0)) (hd:dstOK n d=true) :
  StepX X n ops p Si c c j ⟨d,.call ⟨.builtin .unsafeString,#[x,y],#[t,u]⟩,ty,pos,aft,gd⟩ (.s []) :=
 StepX.val hg hd (fun e a w S r r'=>by
  have h1:=opd_sound r' hx
  have h2:=opd_sound r' hy
  simp only [Rep] at h1 h2
  refine ⟨.string .empty,w,e,?_,r,by simp only [Rep];rfl⟩
  have:=Lib.run_unsafeString_none (P:=P) w t u ty none
  simp only [execOp,resolve,invoke,builtin,Sem.run_bind,Sem.run_pure,Result.andThen_ok,List.map_toArray,List.map_cons,List.map_nil,h1,h2]
  rw [this];rfl)
theorem X_unsafeString (q:Nat) {p:Pl} {x y:Operand} {g cc:Nat} {el:TypeId} {l:List UInt8} {t u:TypeId} {d:Option Nat} {ty:TypeId} {pos:String} {aft:Array Edge} {gd:Option (Nat×Bool)} {j:Nat} {Si:List (Nat×AV)} {c cr:List Ch}
  (ht:P.underlying t=some (.pointer el)) (hc1:P.cellsOf el=1)
  (hg:guardA ops ⟨Si,c⟩ ⟨d,.call ⟨.builtin .unsafeString,#[x,y],#[t,u]⟩,ty,pos,aft,gd⟩=some true) (hx:opd Si x=some (PT g 0)) (hy:opd Si y=some (I64 (l.length:Nat))) (hp:nthA q c=some (bufA (HD g l.length cc) el l,cr)) (hl:l≠[]) (hd:dstOK n d=true) :
  StepX X n ops p Si c cr j ⟨d,.call ⟨.builtin .unsafeString,#[x,y],#[t,u]⟩,ty,pos,aft,gd⟩ (.s l) :=
 StepX.val hg hd (fun e a w S r r'=>by
  have h1:=opd_sound r' hx
  have h2:=opd_sound r' hy
  simp only [Rep] at h1 h2
  obtain ⟨hown0,hgood,hnd⟩:=r.heap.nth hp
  have hown:w.ownsRow 0 el 1 (HD g l.length cc) l.length (Lib.byteCells l):=hown0
  have hperm:c.Perm ([bufA (HD g l.length cc) el l].map Ch.abs++cr):=by simpa using nthA_perm hp
  have hbl:∀ B:Abs,blocks [B]=B.bs:=fun B=>by simp [blocks]
  have hgin:g∈(bufA (HD g l.length cc) el l).bs:=by simp [bufA,HD,Value.ownBlock]
  obtain ⟨cap,cur,hg2,hnc,hmax,hcs⟩:∃ cap cur,w.heap[g]?=some (.cells cur el (0,0))∧l.length≤cap∧cap≤maxLen∧cur.size=cap:=by
   rcases hown.2 with ⟨h3,h4⟩|⟨g2,cap,cur,h3,_,h5,h6,h7,h8,_⟩
   ·exact absurd (List.eq_nil_of_length_eq_zero h4) hl
   ·simp only [HD,Value.slice.injEq,Option.some.injEq,Addr.mk.injEq] at h3
    obtain ⟨⟨rfl,_⟩,_,rfl⟩:=h3
    exact ⟨_,cur,h5,h6,h7,by simpa using h8⟩
  have hcell:∀ (j:Nat) (x:UInt8),l[j]?=some x→w.cell? ((⟨g,0,none⟩:Addr).add j)=some (.int .u8 x.toNat):=fun j x hxj=>by
   have:=hown.cells (g:=g) rfl j (.int .u8 x.toNat) (by simp [Lib.byteCells,hxj])
   exact this
  have hrun:=Lib.run_unsafeString_row (P:=P) w t u ty el ht hc1 g cur.size (by simp [World.shape?,hg2]) l hl (by omega) (by simp only [maxLen] at hmax;omega) hcell
  have hb:∀ k,k≠g→(w.freeze ⟨g,0,none⟩ l.length).heap[k]?=w.heap[k]?:=fun k hk=>by
   unfold World.freeze
   split
   ·rfl
   ·simp only [Array.getElem?_modify]
    rw [if_neg (by omega)]
  have hos:(w.freeze ⟨g,0,none⟩ l.length).os=w.os∧(w.freeze ⟨g,0,none⟩ l.length).tape=w.tape∧(w.freeze ⟨g,0,none⟩ l.length).output=w.output:=by
   unfold World.freeze
   split<;>exact ⟨rfl,rfl,rfl⟩
  have hsz:w.heap.size≤(w.freeze ⟨g,0,none⟩ l.length).heap.size:=by
   unfold World.freeze
   split
   ·exact Nat.le_refl _
   ·simp
  have hf:=hgood g hgin
  refine ⟨.string ⟨l.toArray⟩,w.freeze ⟨g,0,none⟩ l.length,_,?_,r.swapAbs (st:=⟨S,c⟩) (As:=[bufA (HD g l.length cc) el l]) (As':=[]) (G':=e.G) (w':=w.freeze ⟨g,0,none⟩ l.length) hperm (IM.le_refl _) ⟨?_,?_⟩ ⟨fun b o v h=>.inl h,fun b x h=>.inl h⟩ ⟨fun B hB=>(by cases hB),List.nodup_nil,fun b hb=>(by cases hb)⟩ (fun b hb=>(by cases hb)) hos hsz ?_,by simp only [Rep];rfl⟩
  ·simp only [execOp,resolve,invoke,builtin,Sem.run_bind,Sem.run_pure,Result.andThen_ok,List.map_toArray,List.map_cons,List.map_nil,h1,h2]
   rw [hrun];rfl
  ·intro b o v hv
   have h3:=r.im b o v hv
   simp only [World.cell?] at h3 ⊢
   rw [hb b (fun he=>by subst he;rw [hf.2.2.1 o] at hv;cases hv)]
   exact h3
  ·exact r.mzKeep (fun b _ hfr=>hb b (fun he=>hfr (by subst he;exact hf.2.2)))
  ·intro b hbs hnin _
   rw [hbl] at hnin
   exact hb b (fun he=>hnin (by rw [he];exact hgin)))

theorem run_equal_ptr_same {tp te:TypeId} {j:TypeInfo} (a:Addr) (hp:P.underlying tp=some (.pointer te)) (hte:P.info? te=some j) (w:World):(Op.equal tp (.pointer (some a)) (.pointer (some a))).run P w=.ok true w:=by
 have h:∀ d:Nat,(Op.equalIn (d+1) tp (.pointer (some a)) (.pointer (some a))).run P w=.ok true w:=fun d=>by
  simp [Op.equalIn,run_underlying hp,sizeOf,typeInfo,hte,run_sameAddr_same]
 simpa [Op.equal,Op.maxDepth] using h 9999
theorem X_ptrneS {p:Pl} {t el:TypeId} {pi:TypeInfo} {x y:Operand} {b o:Nat} {d:Option Nat} {uy ty:TypeId} {pos:String} {aft:Array Edge} {gd:Option (Nat×Bool)} {j:Nat} {Si:List (Nat×AV)} {c:List Ch} (hm:P.underlying t=some (.pointer el)) (hpi:P.info? el=some pi)
  (hg:guardA ops ⟨Si,c⟩ ⟨d,.binOp .neq t x y uy,ty,pos,aft,gd⟩=some true) (hx:opd Si x=some (PT b o)) (hy:opd Si y=some (PT b o)) (hd:dstOK n d=true) :
  StepX X n ops p Si c c j ⟨d,.binOp .neq t x y uy,ty,pos,aft,gd⟩ (B false) :=
 X_eq (op:=.neq) (u:=.pointer (some ⟨b,o,none⟩)) (v:=.pointer (some ⟨b,o,none⟩)) (b:=true) (.inr rfl) (by intro cs h;cases h) (by intro h;cases h) (fun e a w S r=>run_equal_ptr_same ⟨b,o,none⟩ hm hpi w) (fun w=>binOp_neq_ptr w) hg hx hy hd

theorem Le.order (is:List Nat) {s:List (Nat×AV)} {c c2 cr:List Ch} (h:pickN is c=some (c2,cr)):Le X n ⟨s,c⟩ ⟨s,c2⟩:=by
 intro e a w r
 refine ⟨e,r.less (fun i x h=>h) (fun h2=>?_)⟩
 have h3:=h2.perm ((pickN_perm h).trans List.perm_append_comm)
 clear h
 induction cr with
 | nil=>exact h3
 | cons d cr ih=>exact ih h3.drop
end
end Go.Sy

namespace Go.Proofs
open Go.Sy Go.Lib

def ptrU (b:Nat) (u:Bool):AV:=.v (.pointer (if u then some ⟨b,0,none⟩ else none))
abbrev bldC (b:Nat) (u:Bool) (h:Value):Abs:=boxA b 157 [ptrU b u,.v h]

theorem copyCheck_A (b:Nat) (u:Bool) (h:Value):FnA Tryz.prog 108 [PT b 0] [bldC b u h] (fun r cs'=>r=.tup []∧cs'=[bldC b true h]):=by
 refine fnA Tryz.func108 fun X=>?_
 repeat (first|refine sc rfl ?_|refine so rfl ?_)
 refine O_loadP 0 (reads_box 0) rfl rfl rfl rfl rfl rfl ?_
 repeat refine sc rfl ?_
 refine O_Xd (X_ptrnil Tryz.underlying154 rfl rfl rfl) ?_
 repeat refine so rfl ?_
 cases u with
 | false =>
  refine C_true rfl rfl ?_
  repeat (first|refine sc rfl ?_|refine so rfl ?_)
  refine O_Xd (X_unsafe 0 (v:=.pointer none) Tryz.underlying154 Tryz.underlying234 (by kernel_rfl) rfl rfl rfl rfl rfl) ?_
  repeat refine sc rfl ?_
  refine O_Xd (X_noEscape Tryz.func135 (by kernel_rfl) (by kernel_rfl) (by kernel_rfl) (by kernel_rfl) rfl rfl rfl) ?_
  repeat refine sc rfl ?_
  refine O_Xd (X_fromUnsafe 0 Tryz.underlying234 Tryz.underlying154 rfl (by kernel_rfl) rfl rfl rfl rfl) ?_
  repeat refine so rfl ?_
  refine O_Xn (X_storeP 0 (writes_box (cells:=[ptrU b false,.v h]) (o:=0) (Nat.lt_of_sub_eq_succ rfl)) rfl rfl rfl rfl rfl rfl rfl) ?_
  repeat refine so rfl ?_
  exact ⟨_,[_],_,rfl,pickA_perm (is:=[0]) (As:=[_]) rfl,rfl,rfl,rfl⟩
 | true =>
  refine C_false rfl rfl ?_
  repeat (first|refine sc rfl ?_|refine so rfl ?_)
  refine O_loadP 0 (reads_box 0) rfl rfl rfl rfl rfl rfl ?_
  repeat refine so rfl ?_
  refine O_Xd (X_ptrneS Tryz.underlying154 rfl rfl rfl rfl rfl) ?_
  repeat refine so rfl ?_
  refine C_false rfl rfl ?_
  repeat refine sc rfl ?_
  exact ⟨_,[_],_,rfl,pickA_perm (is:=[0]) (As:=[_]) rfl,rfl,rfl,rfl⟩

def BldP (b:Nat) (l:List UInt8) (cs':List Abs):Prop:=∃ h,HdB h l∧cs'=[bldC b true h,bufA h 5 l]
theorem WriteString_A (b:Nat) (u:Bool) (h:Value) (l m:List UInt8) (hH:HdB h l) (hlen:l.length+m.length≤140737488355328) :
  FnA Tryz.prog 65 [PT b 0,.s m] [bldC b u h,bufA h 5 l] (fun r cs'=>r=.tup [I64 (m.length:Nat),.v .nilIface]∧BldP b (l++m) cs'):=by
 refine fnA Tryz.func65 fun X=>?_
 repeat (first|refine sc rfl ?_|refine so rfl ?_)
 refine O_cA [0] (copyCheck_A b u h) ?_
 rintro r cs' ⟨rfl,rfl⟩
 repeat (first|refine sc rfl ?_|refine so rfl ?_)
 refine O_loadP 0 (reads_box 1) rfl rfl rfl rfl rfl rfl ?_
 repeat refine so rfl ?_
 refine O_appendT 1 Tryz.underlying155 Tryz.underlying9 rfl rfl rfl rfl rfl rfl rfl rfl hH hlen (fun v' hv'=>?_)
 repeat refine so rfl ?_
 have fin:∀ v',HdB v' (l++m)→BldP b (l++m) [bldC b true v',bufA v' 5 (l++m)]:=fun v' h=>⟨v',h,rfl⟩
 have fv:=fin v' hv'
 rcases hv' with ⟨rfl,hl⟩|⟨hl,g,cc,rfl⟩
 ·skip
  refine O_Xn (X_storeP 1 (writes_box (cells:=[ptrU b true,.v h]) (o:=1) (Nat.lt_of_sub_eq_succ rfl)) rfl rfl rfl rfl rfl rfl rfl) ?_
  repeat (first|refine sc rfl ?_|refine so rfl ?_)
  exact ⟨_,[_,_],_,rfl,.refl _,rfl,rfl,fv⟩
 ·skip
  refine O_Xn (X_storeP 1 (writes_box (cells:=[ptrU b true,.v h]) (o:=1) (Nat.lt_of_sub_eq_succ rfl)) rfl rfl rfl rfl rfl rfl rfl) ?_
  repeat (first|refine sc rfl ?_|refine so rfl ?_)
  exact ⟨_,[_,_],_,rfl,.refl _,rfl,rfl,fv⟩

theorem String_A (b:Nat) (u:Bool) (h:Value) (l:List UInt8) (hH:HdB h l):FnA Tryz.prog 67 [PT b 0] [bldC b u h,bufA h 5 l] (fun r cs'=>r=.s l∧cs'=[]):=by
 refine fnA Tryz.func67 fun X=>?_
 repeat (first|refine sc rfl ?_|refine so rfl ?_)
 rcases hH with ⟨rfl,rfl⟩|⟨hl,g,cc,rfl⟩
 ·refine C_drawT 6 10 rfl (by kernel_rfl) (by kernel_rfl) ?_
  repeat refine sd rfl ?_
  refine D_X (.v (.slice none 0 0)) (X_loadP 0 (reads_box 1) rfl rfl rfl rfl rfl rfl) ?_
  repeat refine sd rfl ?_
  refine D_X (.v (.pointer none)) (X_sliceData0 rfl rfl rfl) ?_
  repeat refine sd rfl ?_
  refine D_X (.v (.slice none 0 0)) (X_loadP 0 (reads_box 1) rfl rfl rfl rfl rfl rfl) ?_
  repeat refine sd rfl ?_
  refine O_Xd (X_unsafeString0 rfl rfl rfl rfl) ?_
  repeat (first|refine sc rfl ?_|refine so rfl ?_)
  exact ⟨_,[],_,rfl,.refl _,rfl,rfl,rfl⟩
 ·refine C_drawT 6 10 rfl (by kernel_rfl) (by kernel_rfl) ?_
  repeat refine sd rfl ?_
  refine D_X (.v (HD g l.length cc)) (X_loadP 0 (reads_box 1) rfl rfl rfl rfl rfl rfl) ?_
  repeat refine sd rfl ?_
  refine D_X (PT g 0) (X_sliceData 1 rfl rfl rfl hl rfl) ?_
  repeat refine sd rfl ?_
  refine D_X (.v (HD g l.length cc)) (X_loadP 0 (reads_box 1) rfl rfl rfl rfl rfl rfl) ?_
  repeat refine sd rfl ?_
  refine O_Xd (X_unsafeString 1 Tryz.underlying211 (by kernel_rfl) rfl rfl rfl rfl hl rfl) ?_
  repeat (first|refine sc rfl ?_|refine so rfl ?_)
  exact ⟨_,[],_,rfl,.refl _,rfl,rfl,rfl⟩
end Go.Proofs

namespace Go.Proofs
open Go.Sy Go.Lib

noncomputable def EContent_F (l:List Dcl) (rec:Ty→Val→Option (List UInt8)) (t:Ty) (v:Val):Option (List UInt8) :=
 Option.bind (rec t v) (fun r1=>Option.bind (DWire_X l FU t) (fun r4=>cond (r4 == 0) (some r1) (Option.bind (SpPut_F r1) (fun r7=>some r7))))
theorem EContent_w (b:Nat) (l:List Dcl) (hP:Prep l) (hW:WellL l) (rec:Ty→Val→Option (List UInt8)) (t:Ty) (v:Val) (r:List UInt8) (hrec:∀ t v r,rec t v=some r→FnA Tryz.prog 34 [.cp [PT b 0],.agg (Ty.c t),.agg (Val.c v)] [vmA b l] (fun x cs'=>x=.s r∧cs'=[vmA b l])) (h:EContent_F l rec t v=some r):FnA Tryz.prog 66 [.cp [PT b 0],.agg (Ty.c t),.agg (Val.c v)] [vmA b l] (fun x cs'=>x=.s r∧cs'=[vmA b l]):=by
 unfold EContent_F at h
 refine fnA Tryz.func66 fun X=>?_
 iterate 2 refine sc rfl ?_
 refine so rfl ?_
 refine O_le _ (Le.freezebox 4 rfl rfl rfl) ?_
 refine so rfl ?_
 refine O_le _ (Le.freezebox 5 rfl rfl rfl) ?_
 refine so rfl ?_
 refine so rfl ?_
 iterate 2 refine sc rfl ?_
 iterate 2 refine so rfl ?_
 refine so rfl ?_
 obtain ⟨r1,hr2,h⟩:=bT h
 refine O_cA [0] (hrec _ _ _ hr2) ?_
 rintro q3 cs' ⟨rfl,rfl⟩
 refine so rfl ?_
 refine so rfl ?_
 iterate 2 refine sc rfl ?_
 refine C_drawD rfl (by kernel_rfl) ?_
 iterate 5 refine sd rfl ?_
 obtain ⟨r4,hr5,h⟩:=bT h
 refine D_callA [0] (DWire_w b l hP hW _ _ hr5) rfl rfl rfl rfl rfl ?_
 refine sd rfl ?_
 refine sd rfl ?_
 refine C_if rfl (fun hb6=>?_) (fun hb6=>?_)
 ·replace h:=cT hb6 h
  iterate 2 refine sc rfl ?_
  iterate 2 refine so rfl ?_
  refine so rfl ?_
  refine sc rfl ?_
  obtain rfl:=osi h
  exact ⟨_,[_],_,rfl,pickA_perm (is:=[0]) (As:=[_]) rfl,rfl,rfl,rfl⟩
 ·replace h:=cF hb6 h
  iterate 3 refine sc rfl ?_
  refine so rfl ?_
  obtain ⟨r7,hr8,h⟩:=bT h
  refine O_cP (SpPut_w _ _ hr8) fun q9 hq9=>?_
  subst hq9
  refine so rfl ?_
  refine so rfl ?_
  refine sc rfl ?_
  obtain rfl:=osi h
  exact ⟨_,[_],_,rfl,pickA_perm (is:=[0]) (As:=[_]) rfl,rfl,rfl,rfl⟩
end Go.Proofs

namespace Go.Proofs
open Go.Sy Go.Lib

noncomputable def efOne (l:List Dcl) (rec:Ty→Val→Option (List UInt8)) (nm:List UInt8) (tag:Int) (x:Val):Option (List UInt8) :=
 Option.bind (DRow_F2 l nm tag) fun q=>Option.bind (DWire_X l FU q.1.ty) fun w=>Option.bind (KPut_F tag w) fun k=>Option.bind (EContent_F l rec q.1.ty x) fun s=>chk (k.1.length+s.length≤9223372036854775807) (some (k.1++s))
noncomputable def efGo (l:List Dcl) (rec:Ty→Val→Option (List UInt8)) (nm:List UInt8) (v:Val):Nat→Nat→List UInt8→Option (List UInt8)
 | 0,_,acc=>some acc
 | n+1,i,acc=>chk (i<v.items.length) (Option.bind (efOne l rec nm (v.tags.getD i default) (v.items.getD i default)) fun s=>chk (acc.length+s.length≤140737488355328) (efGo l rec nm v n (i+1) (acc++s)))
noncomputable def EFields_F (l:List Dcl) (rec:Ty→Val→Option (List UInt8)) (nm:List UInt8) (v:Val):Option (List UInt8):=chk (v.tags.length≤1000000) (efGo l rec nm v v.tags.length 0 [])

theorem EFields_w (b:Nat) (l:List Dcl) (hP:Prep l) (hW:WellL l) (rec:Ty→Val→Option (List UInt8)) (nm:List UInt8) (v:Val) (r:List UInt8) (hrec:∀ t v r,rec t v=some r→FnA Tryz.prog 34 [.cp [PT b 0],.agg (Ty.c t),.agg (Val.c v)] [vmA b l] (fun x cs'=>x=.s r∧cs'=[vmA b l]))
  (h:EFields_F l rec nm v=some r):FnA Tryz.prog 68 [.cp [PT b 0],.s nm,.agg (Val.c v)] [vmA b l] (fun x cs'=>x=.s r∧cs'=[vmA b l]):=by
 unfold EFields_F at h
 obtain ⟨hT,h⟩:=gT h
 refine fnA Tryz.func68 fun X=>?_
 iterate 2 refine sc rfl ?_
 refine so rfl ?_
 refine O_le _ (Le.freezebox 5 rfl rfl rfl) ?_
 repeat (first|refine sc rfl ?_|refine so rfl ?_)
 refine C_le _ (Le.addAbs (bufA (.slice none 0 0) 5 []) rfl (fun _ _=>⟨rfl,.inl ⟨rfl,rfl⟩⟩)) ?_
 refine C_absb 7 rfl rfl rfl (fun bb=>?_)
 repeat refine sc rfl ?_
 refine C_loop (fun q:Nat×Bool×Value×List UInt8=>⟨[(0,.cp [PT b 0]),(1,.s nm),(5,.cp (Val.c v)),(7,PT bb 0),(15,SL 1 INTc v.tags),(16,I64 (v.tags.length:Nat)),(17,I64 (q.1:Nat))],[.abs (bldC bb q.2.1 q.2.2.1),.abs (bufA q.2.2.1 5 q.2.2.2),.abs (vmA b l)]⟩)
  (fun q=>q.1≤v.tags.length∧HdB q.2.2.1 q.2.2.2∧efGo l rec nm v (v.tags.length-q.1) q.1 q.2.2.2=some r) (fun q=>v.tags.length-q.1) (0,false,.slice none 0 0,[]) ⟨Nat.zero_le _,.inl ⟨rfl,rfl⟩,h⟩ ?_ ?_
 ·exact Le.sub [1000000,1000000,1000000] ⟨rfl,rfl,rfl,rfl,rfl,rfl,rfl,trivial⟩ rfl
 rintro ⟨i,u,hd,acc⟩ ⟨hi,hH,hF⟩
 simp only [] at hi hH hF
 repeat (first|refine sc rfl ?_|refine so rfl ?_)
 refine C_if rfl (fun m1=>?_) (fun m1=>?_)<;>simp only [pL] at m1
 ·have hil:i<v.tags.length:=by omega
  rw [show v.tags.length-i=(v.tags.length-(i+1))+1 by omega] at hF
  simp only [efGo] at hF
  obtain ⟨hit,hF⟩:=gT hF
  obtain ⟨s1,hs1,hF⟩:=bT hF
  obtain ⟨hal,hF⟩:=gT hF
  unfold efOne at hs1
  obtain ⟨q,hq,hs1⟩:=bT hs1
  obtain ⟨w,hw,hs1⟩:=bT hs1
  obtain ⟨k,hk,hs1⟩:=bT hs1
  obtain ⟨s2,hs2,hs1⟩:=bT hs1
  obtain ⟨hkl,hs1⟩:=gT hs1
  obtain rfl:=osi hs1
  repeat (first|refine sc rfl ?_|refine so rfl ?_)
  refine ⟨by omega,?_⟩
  rw [Int.toNat_natCast]
  repeat (first|refine sc rfl ?_|refine so rfl ?_)
  refine O_cA [2] (vRow_w b l hP hW _ _ _ hq) ?_
  rintro r' cs' ⟨rfl,rfl⟩
  repeat (first|refine sc rfl ?_|refine so rfl ?_)
  refine C_le _ (Le.freezebox 10 rfl rfl rfl) ?_
  refine C_drawD rfl (by kernel_rfl) ?_
  repeat refine sd rfl ?_
  refine D_callA [0] (DWire_w b l hP hW _ _ hw) rfl rfl rfl rfl rfl ?_
  repeat refine sd rfl ?_
  refine D_call (KPut_w _ _ _ hk) rfl rfl rfl rfl ?_
  repeat refine sd rfl ?_
  repeat refine sc rfl ?_
  refine C_drawT 6 11 rfl (by kernel_rfl) (by kernel_rfl) ?_
  iterate 5 refine sd rfl ?_
  refine sdw (SL 5 Val.c v.items) rfl rfl rfl (.row (Val.rows_eq _)) ?_
  refine sd rfl ?_
  refine sd rfl (And.intro ⟨by omega,by omega⟩ ?_)
  refine sd rfl ?_
  refine D_callA [0] (EContent_w b l hP hW rec _ _ _ hrec (by rw [Int.toNat_natCast];exact hs2)) rfl rfl rfl rfl rfl ?_
  refine sd rfl (And.intro hkl ?_)
  refine sd rfl ?_
  refine O_cA [1,1] (WriteString_A bb u hd acc (k.1++s2) hH hal) ?_
  rintro r' cs' ⟨rfl,h',hH',rfl⟩
  repeat (first|refine sc rfl ?_|refine so rfl ?_)
  rw [w64 (x:=(i:Int)+1) (by omega) (by omega)]
  refine ⟨(i+1,true,h',acc++(k.1++s2)),⟨hil,hH',hF⟩,by simp only [];omega,Le.sub [1000000,1000000,1000000] ⟨rfl,rfl,rfl,rfl,rfl,rfl,rfl,trivial⟩ rfl⟩
 ·obtain rfl:i=v.tags.length:=by omega
  rw [Nat.sub_self] at hF
  obtain rfl:=osi hF
  repeat refine sc rfl ?_
  refine O_cA [0,0] (String_A bb u hd acc hH) ?_
  rintro r' cs' ⟨rfl,rfl⟩
  repeat (first|refine sc rfl ?_|refine so rfl ?_)
  exact ⟨_,[_],_,rfl,pickA_perm (is:=[0]) (As:=[_]) rfl,rfl,rfl,rfl⟩
end Go.Proofs

namespace Go.Proofs
open Go.Sy Go.Lib

theorem ofType_w (t:Ty) (i:Nat) (hm:0<t.of.length) (hi:i≤1000000):FnP Tryz.prog 64 [I64 (i:Nat),.cp (Ty.c t)] (·=.agg (Ty.c (t.of.getD (i % t.of.length) default))):=by
 refine fnP Tryz.func64 fun X=>?_
 have hmod:(i:Int) % (t.of.length:Int)=((i % t.of.length:Nat):Int):=by omega
 have hlt:=Nat.mod_lt i hm
 repeat (first|refine sc rfl ?_|refine so rfl ?_)
 refine C_drawT 6 9 rfl (by kernel_rfl) (by kernel_rfl) ?_
 refine sd rfl ?_
 refine sdw (SL 3 Ty.c t.of) rfl rfl rfl (.row (Ty.rows_eq _)) ?_
 iterate 2 refine sd rfl ?_
 refine sdw (SL 3 Ty.c t.of) rfl rfl rfl (.row (Ty.rows_eq _)) ?_
 refine sd rfl ?_
 refine sd rfl (And.intro (by omega) ?_)
 rw [show Int.tmod ((i:Nat):Int) (t.of.length:Int)=((i % t.of.length:Nat):Int) from rfl]
 refine sd rfl (And.intro ⟨by omega,by omega⟩ ?_)
 rw [Int.toNat_natCast]
 refine sd rfl ?_
 refine sd rfl ?_
 repeat (first|refine sc rfl ?_|refine so rfl ?_)
 exact ⟨_,rfl,rfl,rfl⟩

noncomputable def eiGo (l:List Dcl) (rec:Ty→Val→Option (List UInt8)) (t:Ty) (v:Val):Nat→Nat→List UInt8→Option (List UInt8)
 | 0,_,acc=>some acc
 | n+1,i,acc=>Option.bind (EContent_F l rec (t.of.getD (i % t.of.length) default) (v.items.getD i default)) fun s=>chk (acc.length+s.length≤140737488355328) (eiGo l rec t v n (i+1) (acc++s))
noncomputable def EInside_F (l:List Dcl) (rec:Ty→Val→Option (List UInt8)) (t:Ty) (v:Val):Option (List UInt8) :=
 if t.kind=9 then chk (0<t.of.length) (rec (t.of.getD 0 default) v)
 else if t.kind=4∨t.kind=5 then some v.text
 else if t.kind=7∨t.kind=8 then chk (0<t.of.length∧v.items.length≤1000000) (eiGo l rec t v v.items.length 0 [])
 else if t.kind=6 then Option.bind (DKind_F l t.name) (fun k=>if k≠3 then EFields_F l rec t.name v else ENumber_F v)
 else ENumber_F v

theorem EInside_wb (b:Nat) (l:List Dcl) (hP:Prep l) (hW:WellL l) (rec:Ty→Val→Option (List UInt8)) (t:Ty) (v:Val) (r:List UInt8) (hrec:∀ t v r,rec t v=some r→FnA Tryz.prog 34 [.cp [PT b 0],.agg (Ty.c t),.agg (Val.c v)] [vmA b l] (fun x cs'=>x=.s r∧cs'=[vmA b l]))
  (h:EInside_F l rec t v=some r):FnA Tryz.prog 34 [.cp [PT b 0],.agg (Ty.c t),.agg (Val.c v)] [vmA b l] (fun x cs'=>x=.s r∧cs'=[vmA b l]):=by
 unfold EInside_F at h
 refine fnA Tryz.func34 fun X=>?_
 iterate 2 refine sc rfl ?_
 refine so rfl ?_
 refine O_le _ (Le.freezebox 4 rfl rfl rfl) ?_
 refine so rfl ?_
 refine O_le _ (Le.freezebox 5 rfl rfl rfl) ?_
 repeat (first|refine sc rfl ?_|refine so rfl ?_)
 refine O_makeFunc rfl rfl rfl rfl ?_
 repeat (first|refine sc rfl ?_|refine so rfl ?_)
 refine C_if rfl (fun c9=>?_) (fun c9=>?_)<;>simp only [pL] at c9
 ·rw [if_pos c9] at h
  obtain ⟨hof,h⟩:=gT h
  repeat refine sc rfl ?_
  refine C_drawD rfl (by kernel_rfl) ?_
  iterate 2 refine sd rfl ?_
  refine D_callV (isClo_p 64 [.cp (Ty.c t)]) rfl (by exact ofType_w t 0 hof (by omega)) rfl rfl rfl rfl rfl ?_
  rw [Nat.zero_mod]
  repeat refine sd rfl ?_
  refine D_callA [0] (hrec _ _ _ h) rfl rfl rfl rfl rfl ?_
  repeat refine sd rfl ?_
  repeat refine sc rfl ?_
  exact ⟨_,[_],_,rfl,pickA_perm (is:=[0]) (As:=[_]) rfl,rfl,rfl,rfl⟩
 rw [if_neg c9] at h
 repeat (first|refine sc rfl ?_|refine so rfl ?_)
 refine C_join ⟨[(0,.cp [PT b 0]),(4,.cp (Ty.c t)),(5,.cp (Val.c v)),(7,.p (cloRP 64 [.cp (Ty.c t)])),(13,I64 t.kind),(21,B (decide (t.kind=4∨t.kind=5)))],[.abs (vmA b l)]⟩ ?_ (fun s hs=>C_le _ hs ?_)
 ·refine C_if rfl (fun d1=>?_) (fun d1=>?_)<;>simp only [pL] at d1
  ·repeat refine sc rfl ?_
   exact Le.sub [1000000] ⟨rfl,rfl,rfl,rfl,rfl,congrArg (fun x=>some (B x)) (by simp [d1]),trivial⟩ rfl
  ·repeat (first|refine sc rfl ?_|refine so rfl ?_)
   exact Le.sub [1000000] ⟨rfl,rfl,rfl,rfl,rfl,congrArg (fun x=>some (B x)) (by rw [Bool.eq_iff_iff];simp [d1]),trivial⟩ rfl
 repeat refine sc rfl ?_
 refine C_if rfl (fun c4=>?_) (fun c4=>?_)<;>simp only [pL] at c4
 ·rw [if_pos c4] at h
  obtain rfl:=osi h
  repeat (first|refine sc rfl ?_|refine so rfl ?_)
  exact ⟨_,[_],_,rfl,pickA_perm (is:=[0]) (As:=[_]) rfl,rfl,rfl,rfl⟩
 rw [if_neg c4] at h
 repeat (first|refine sc rfl ?_|refine so rfl ?_)
 refine C_join ⟨[(0,.cp [PT b 0]),(4,.cp (Ty.c t)),(5,.cp (Val.c v)),(7,.p (cloRP 64 [.cp (Ty.c t)])),(13,I64 t.kind),(26,B (decide (t.kind=7∨t.kind=8)))],[.abs (vmA b l)]⟩ ?_ (fun s hs=>C_le _ hs ?_)
 ·refine C_if rfl (fun d1=>?_) (fun d1=>?_)<;>simp only [pL] at d1
  ·repeat refine sc rfl ?_
   exact Le.sub [1000000] ⟨rfl,rfl,rfl,rfl,rfl,congrArg (fun x=>some (B x)) (by simp [d1]),trivial⟩ rfl
  ·repeat (first|refine sc rfl ?_|refine so rfl ?_)
   exact Le.sub [1000000] ⟨rfl,rfl,rfl,rfl,rfl,congrArg (fun x=>some (B x)) (by rw [Bool.eq_iff_iff];simp [d1]),trivial⟩ rfl
 repeat refine sc rfl ?_
 refine C_if rfl (fun c7=>?_) (fun c7=>?_)<;>simp only [pL] at c7
 ·rw [if_pos c7] at h
  obtain ⟨⟨hof,hit⟩,h⟩:=gT h
  repeat refine sc rfl ?_
  refine so rfl ?_
  refine so rfl ?_
  refine C_le _ (Le.addAbs (bufA (.slice none 0 0) 5 []) rfl (fun _ _=>⟨rfl,.inl ⟨rfl,rfl⟩⟩)) ?_
  refine C_absb 8 rfl rfl rfl (fun bb=>?_)
  repeat refine sc rfl ?_
  refine so rfl ?_
  refine so rfl ?_
  refine O_le _ (Le.one 30 (SL 5 Val.c v.items) rfl (.row (Val.rows_eq _))) ?_
  repeat (first|refine sc rfl ?_|refine so rfl ?_)
  refine C_loop (fun q:Nat×Bool×Value×List UInt8=>⟨[(0,.cp [PT b 0]),(4,.cp (Ty.c t)),(7,.p (cloRP 64 [.cp (Ty.c t)])),(8,PT bb 0),(30,SL 5 Val.c v.items),(31,I64 (v.items.length:Nat)),(32,I64 (q.1:Nat))],[.abs (bldC bb q.2.1 q.2.2.1),.abs (bufA q.2.2.1 5 q.2.2.2),.abs (vmA b l)]⟩)
   (fun q=>q.1≤v.items.length∧HdB q.2.2.1 q.2.2.2∧eiGo l rec t v (v.items.length-q.1) q.1 q.2.2.2=some r) (fun q=>v.items.length-q.1) (0,false,.slice none 0 0,[]) ⟨Nat.zero_le _,.inl ⟨rfl,rfl⟩,h⟩ ?_ ?_
  ·exact Le.sub [1000000,1000000,1000000] ⟨rfl,rfl,rfl,rfl,rfl,rfl,rfl,trivial⟩ rfl
  rintro ⟨i,u,hd,acc⟩ ⟨hi,hH,hF⟩
  simp only [] at hi hH hF
  repeat (first|refine sc rfl ?_|refine so rfl ?_)
  refine C_if rfl (fun m1=>?_) (fun m1=>?_)<;>simp only [pL] at m1
  ·have hil:i<v.items.length:=by omega
   rw [show v.items.length-i=(v.items.length-(i+1))+1 by omega] at hF
   simp only [eiGo] at hF
   obtain ⟨s1,hs1,hF⟩:=bT hF
   obtain ⟨hal,hF⟩:=gT hF
   repeat (first|refine sc rfl ?_|refine so rfl ?_)
   refine ⟨by omega,?_⟩
   rw [Int.toNat_natCast]
   repeat refine so rfl ?_
   refine C_le _ (Le.freezebox 10 rfl rfl rfl) ?_
   refine C_drawT 6 6 rfl (by kernel_rfl) (by kernel_rfl) ?_
   iterate 3 refine sd rfl ?_
   refine D_callV (isClo_p 64 [.cp (Ty.c t)]) rfl (by exact ofType_w t i hof (by omega)) rfl rfl rfl rfl rfl ?_
   refine sd rfl ?_
   refine D_callA [2] (EContent_w b l hP hW rec _ _ _ hrec hs1) rfl rfl rfl rfl rfl ?_
   refine sd rfl ?_
   refine O_cA [0,0] (WriteString_A bb u hd acc s1 hH hal) ?_
   rintro r' cs' ⟨rfl,h',hH',rfl⟩
   repeat (first|refine sc rfl ?_|refine so rfl ?_)
   rw [w64 (x:=(i:Int)+1) (by omega) (by omega)]
   refine ⟨(i+1,true,h',acc++s1),⟨hil,hH',hF⟩,by simp only [];omega,Le.sub [1000000,1000000,1000000] ⟨rfl,rfl,rfl,rfl,rfl,rfl,rfl,trivial⟩ rfl⟩
  ·obtain rfl:i=v.items.length:=by omega
   rw [Nat.sub_self] at hF
   obtain rfl:=osi hF
   repeat refine sc rfl ?_
   refine O_cA [0,0] (String_A bb u hd acc hH) ?_
   rintro r' cs' ⟨rfl,rfl⟩
   repeat (first|refine sc rfl ?_|refine so rfl ?_)
   exact ⟨_,[_],_,rfl,pickA_perm (is:=[0]) (As:=[_]) rfl,rfl,rfl,rfl⟩
 rw [if_neg c7] at h
 repeat (first|refine sc rfl ?_|refine so rfl ?_)
 refine C_if rfl (fun c6=>?_) (fun c6=>?_)<;>simp only [pL] at c6
 ·rw [if_pos c6] at h
  obtain ⟨k,hk,h⟩:=bT h
  repeat refine sc rfl ?_
  refine C_drawD rfl (by kernel_rfl) ?_
  repeat refine sd rfl ?_
  refine D_callA [0] (vKind_w b l hP hW _ _ hk) rfl rfl rfl rfl rfl ?_
  repeat refine sd rfl ?_
  repeat refine sc rfl ?_
  refine C_if rfl (fun c3=>?_) (fun c3=>?_)<;>simp only [pL] at c3
  ·rw [if_pos c3] at h
   repeat (first|refine sc rfl ?_|refine so rfl ?_)
   refine O_cA [0] (EFields_w b l hP hW rec _ _ _ hrec h) ?_
   rintro r' cs' ⟨rfl,rfl⟩
   repeat (first|refine sc rfl ?_|refine so rfl ?_)
   exact ⟨_,[_],_,rfl,pickA_perm (is:=[0]) (As:=[_]) rfl,rfl,rfl,rfl⟩
  ·rw [if_neg (by simpa using c3)] at h
   repeat (first|refine sc rfl ?_|refine so rfl ?_)
   refine O_cP (ENumber_w _ _ h) fun q hq=>?_
   subst hq
   repeat (first|refine sc rfl ?_|refine so rfl ?_)
   exact ⟨_,[_],_,rfl,pickA_perm (is:=[0]) (As:=[_]) rfl,rfl,rfl,rfl⟩
 ·rw [if_neg c6] at h
  repeat (first|refine sc rfl ?_|refine so rfl ?_)
  refine O_cP (ENumber_w _ _ h) fun q hq=>?_
  subst hq
  repeat (first|refine sc rfl ?_|refine so rfl ?_)
  exact ⟨_,[_],_,rfl,pickA_perm (is:=[0]) (As:=[_]) rfl,rfl,rfl,rfl⟩

noncomputable def EInside_X (l:List Dcl):Nat→Ty→Val→Option (List UInt8)
 | 0,_,_=>none
 | n+1,t,v=>EInside_F l (EInside_X l n) t v
theorem EInside_wn (b:Nat) (l:List Dcl) (hP:Prep l) (hW:WellL l):∀ (n:Nat) (t:Ty) (v:Val) (r:List UInt8),EInside_X l n t v=some r→FnA Tryz.prog 34 [.cp [PT b 0],.agg (Ty.c t),.agg (Val.c v)] [vmA b l] (fun x cs'=>x=.s r∧cs'=[vmA b l])
 | 0,_,_,_,h=>by cases h
 | n+1,t,v,r,h=>EInside_wb b l hP hW (EInside_X l n) t v r (fun t v r hr=>EInside_wn b l hP hW n t v r hr) h
theorem EInside_w (b:Nat) (l:List Dcl) (hP:Prep l) (hW:WellL l) (t:Ty) (v:Val) (r:List UInt8) (h:EInside_X l FU t v=some r):FnA Tryz.prog 34 [.cp [PT b 0],.agg (Ty.c t),.agg (Val.c v)] [vmA b l] (fun x cs'=>x=.s r∧cs'=[vmA b l]):=EInside_wn b l hP hW FU t v r h
end Go.Proofs

namespace Go.Proofs
open Go.Sy Go.Lib

noncomputable def FitFits_F (l:List Dcl) (t:Ty) (v:Val):Option (Int) :=
 Option.bind (WellV_X FU v) (fun r1=>cond (!r1) (some 1) (Option.bind (DeepV_X FU v) (fun r5=>cond (decide (8<r5)) (some 10) (Option.bind (FFits_X l FU t v) (fun r9=>some r9)))))
theorem FitFits_w (b:Nat) (l:List Dcl) (hP:Prep l) (hW:WellL l) (t:Ty) (v:Val) (r:Int) (h:FitFits_F l t v=some r):FnA Tryz.prog 26 [PT b 0,.agg (Ty.c t),.agg (Val.c v)] [vmA b l] (fun x cs'=>x=I64 r∧cs'=[vmA b l]):=by
 unfold FitFits_F at h
 refine fnA Tryz.func26 fun X=>?_
 iterate 2 refine sc rfl ?_
 refine so rfl ?_
 refine O_le _ (Le.freezebox 4 rfl rfl rfl) ?_
 refine so rfl ?_
 refine O_le _ (Le.freezebox 5 rfl rfl rfl) ?_
 refine so rfl ?_
 refine so rfl ?_
 iterate 4 refine sc rfl ?_
 refine so rfl ?_
 obtain ⟨r1,hr2,h⟩:=bT h
 refine O_cA [0] (vWell_w b l hP hW _ _ hr2) ?_
 rintro q3 cs' ⟨rfl,rfl⟩
 iterate 2 refine so rfl ?_
 refine so rfl ?_
 refine C_if rfl (fun hb4=>?_) (fun hb4=>?_)
 ·replace h:=cT hb4 h
  iterate 2 refine sc rfl ?_
  refine so rfl ?_
  refine so rfl ?_
  refine sc rfl ?_
  obtain rfl:=osi h
  exact ⟨_,[_],_,rfl,pickA_perm (is:=[0]) (As:=[_]) rfl,rfl,rfl,rfl⟩
 ·replace h:=cF hb4 h
  iterate 2 refine sc rfl ?_
  refine so rfl ?_
  obtain ⟨r5,hr6,h⟩:=bT h
  refine O_cP (DeepV_w _ _ hr6) fun q7 hq7=>?_
  subst hq7
  iterate 2 refine so rfl ?_
  refine so rfl ?_
  refine C_if rfl (fun hb8=>?_) (fun hb8=>?_)
  ·replace h:=cT hb8 h
   iterate 2 refine sc rfl ?_
   refine so rfl ?_
   refine so rfl ?_
   refine sc rfl ?_
   obtain rfl:=osi h
   exact ⟨_,[_],_,rfl,pickA_perm (is:=[0]) (As:=[_]) rfl,rfl,rfl,rfl⟩
  ·replace h:=cF hb8 h
   iterate 3 refine sc rfl ?_
   iterate 3 refine so rfl ?_
   refine O_le _ (Le.freezebox 18 rfl rfl rfl) ?_
   refine so rfl ?_
   refine so rfl ?_
   iterate 2 refine sc rfl ?_
   iterate 2 refine so rfl ?_
   refine so rfl ?_
   obtain ⟨r9,hr10,h⟩:=bT h
   refine O_cA [0] (vFits_w b l hP hW _ _ _ hr10) ?_
   rintro q11 cs' ⟨rfl,rfl⟩
   refine so rfl ?_
   refine so rfl ?_
   refine sc rfl ?_
   obtain rfl:=osi h
   exact ⟨_,[_],_,rfl,pickA_perm (is:=[0]) (As:=[_]) rfl,rfl,rfl,rfl⟩
noncomputable def FitStruct_F (l:List Dcl) (nm:List UInt8) (v:Val):Option (Int) :=
 Option.bind (DKind_F l nm) (fun r1=>cond (r1 != 1) (some 8) (Option.bind (FitFits_F l  (⟨6,nm,([]:List Ty)⟩:Ty) v) (fun r5=>some r5)))
theorem FitStruct_w (b:Nat) (l:List Dcl) (hP:Prep l) (hW:WellL l) (nm:List UInt8) (v:Val) (r:Int) (h:FitStruct_F l nm v=some r):FnA Tryz.prog 14 [PT b 0,.s nm,.agg (Val.c v)] [vmA b l] (fun x cs'=>x=I64 r∧cs'=[vmA b l]):=by
 unfold FitStruct_F at h
 refine fnA Tryz.func14 fun X=>?_
 iterate 2 refine sc rfl ?_
 refine so rfl ?_
 refine O_le _ (Le.freezebox 5 rfl rfl rfl) ?_
 refine so rfl ?_
 refine so rfl ?_
 iterate 3 refine sc rfl ?_
 iterate 2 refine so rfl ?_
 obtain ⟨r1,hr2,h⟩:=bT h
 refine O_cA [0] (vKind_w b l hP hW _ _ hr2) ?_
 rintro q3 cs' ⟨rfl,rfl⟩
 refine so rfl ?_
 refine so rfl ?_
 refine C_if rfl (fun hb4=>?_) (fun hb4=>?_)
 ·replace h:=cT hb4 h
  iterate 2 refine sc rfl ?_
  refine so rfl ?_
  refine so rfl ?_
  refine sc rfl ?_
  obtain rfl:=osi h
  exact ⟨_,[_],_,rfl,pickA_perm (is:=[0]) (As:=[_]) rfl,rfl,rfl,rfl⟩
 ·replace h:=cF hb4 h
  iterate 3 refine sc rfl ?_
  iterate 3 refine so rfl ?_
  refine O_le _ (Le.agg 13 [I64 6,.s nm,.sl ([]:List Ty).length 3 (Ty.rows ([]:List Ty))] rfl (.cons .refl (.cons .refl (.cons .nil .nil)))) ?_
  refine so rfl ?_
  obtain ⟨r5,hr6,h⟩:=bT h
  refine O_cA [0] (FitFits_w b l hP hW  _ _ _ hr6) ?_
  rintro q7 cs' ⟨rfl,rfl⟩
  refine so rfl ?_
  refine so rfl ?_
  refine sc rfl ?_
  obtain rfl:=osi h
  exact ⟨_,[_],_,rfl,pickA_perm (is:=[0]) (As:=[_]) rfl,rfl,rfl,rfl⟩
end Go.Proofs

namespace Go.Proofs
open Go.Sy Go.Lib

noncomputable def EnInside_F (l:List Dcl) (t:Ty) (v:Val):Option (List UInt8×Int) :=
 Option.bind (FitFits_F l t v) (fun r1=>cond (r1 != 0) (some ([],r1)) (Option.bind (EInside_X l FU t v) (fun r5=>some (r5,0))))
theorem EnInside_w (b:Nat) (l:List Dcl) (hP:Prep l) (hW:WellL l) (t:Ty) (v:Val) (r:List UInt8×Int) (h:EnInside_F l t v=some r):FnA Tryz.prog 20 [PT b 0,.agg (Ty.c t),.agg (Val.c v)] [vmA b l] (fun x cs'=>x=.tup [.s r.1,I64 r.2]∧cs'=[vmA b l]):=by
 unfold EnInside_F at h
 refine fnA Tryz.func20 fun X=>?_
 iterate 2 refine sc rfl ?_
 refine so rfl ?_
 refine O_le _ (Le.freezebox 4 rfl rfl rfl) ?_
 refine so rfl ?_
 refine O_le _ (Le.freezebox 5 rfl rfl rfl) ?_
 iterate 2 refine so rfl ?_
 refine so rfl ?_
 iterate 3 refine sc rfl ?_
 iterate 2 refine so rfl ?_
 refine so rfl ?_
 obtain ⟨r1,hr2,h⟩:=bT h
 refine O_cA [0] (FitFits_w b l hP hW _ _ _ hr2) ?_
 rintro q3 cs' ⟨rfl,rfl⟩
 refine so rfl ?_
 refine so rfl ?_
 iterate 2 refine sc rfl ?_
 iterate 2 refine so rfl ?_
 refine so rfl ?_
 refine C_if rfl (fun hb4=>?_) (fun hb4=>?_)
 ·replace h:=cT hb4 h
  iterate 2 refine sc rfl ?_
  iterate 3 refine so rfl ?_
  refine so rfl ?_
  refine sc rfl ?_
  obtain rfl:=osi h
  exact ⟨_,[_],_,rfl,pickA_perm (is:=[0]) (As:=[_]) rfl,rfl,rfl,rfl⟩
 ·replace h:=cF hb4 h
  iterate 3 refine sc rfl ?_
  iterate 3 refine so rfl ?_
  refine O_le _ (Le.freezebox 19 rfl rfl rfl) ?_
  refine so rfl ?_
  refine so rfl ?_
  iterate 2 refine sc rfl ?_
  iterate 2 refine so rfl ?_
  refine so rfl ?_
  obtain ⟨r5,hr6,h⟩:=bT h
  refine O_cA [0] (EInside_w b l hP hW _ _ _ hr6) ?_
  rintro q7 cs' ⟨rfl,rfl⟩
  iterate 2 refine so rfl ?_
  refine so rfl ?_
  refine sc rfl ?_
  obtain rfl:=osi h
  exact ⟨_,[_],_,rfl,pickA_perm (is:=[0]) (As:=[_]) rfl,rfl,rfl,rfl⟩
noncomputable def EnEncode_F (l:List Dcl) (nm:List UInt8) (v:Val):Option (List UInt8×Int) :=
 Option.bind (FitStruct_F l nm v) (fun r1=>cond (r1 != 0) (some ([],r1)) (Option.bind (EnInside_F l  (⟨6,nm,([]:List Ty)⟩:Ty) v) (fun r5=>Option.bind (α:=Bool) (cond (r5.2 == 0) (some (decide (1024<(r5.1.length:Int)))) (some false)) (fun m8=>cond m8 (some ([],3)) (some (r5.1,r5.2))))))
theorem EnEncode_w (b:Nat) (l:List Dcl) (hP:Prep l) (hW:WellL l) (nm:List UInt8) (v:Val) (r:List UInt8×Int) (h:EnEncode_F l nm v=some r):FnA Tryz.prog 10 [PT b 0,.s nm,.agg (Val.c v)] [vmA b l] (fun x cs'=>x=.tup [.s r.1,I64 r.2]∧cs'=[vmA b l]):=by
 unfold EnEncode_F at h
 refine fnA Tryz.func10 fun X=>?_
 iterate 2 refine sc rfl ?_
 refine so rfl ?_
 refine O_le _ (Le.freezebox 5 rfl rfl rfl) ?_
 iterate 2 refine so rfl ?_
 refine so rfl ?_
 iterate 3 refine sc rfl ?_
 iterate 3 refine so rfl ?_
 obtain ⟨r1,hr2,h⟩:=bT h
 refine O_cA [0] (FitStruct_w b l hP hW _ _ _ hr2) ?_
 rintro q3 cs' ⟨rfl,rfl⟩
 refine so rfl ?_
 refine so rfl ?_
 iterate 2 refine sc rfl ?_
 iterate 2 refine so rfl ?_
 refine so rfl ?_
 refine C_if rfl (fun hb4=>?_) (fun hb4=>?_)
 ·replace h:=cT hb4 h
  iterate 2 refine sc rfl ?_
  iterate 3 refine so rfl ?_
  refine so rfl ?_
  refine sc rfl ?_
  obtain rfl:=osi h
  exact ⟨_,[_],_,rfl,pickA_perm (is:=[0]) (As:=[_]) rfl,rfl,rfl,rfl⟩
 ·replace h:=cF hb4 h
  iterate 3 refine sc rfl ?_
  iterate 3 refine so rfl ?_
  refine O_le _ (Le.agg 21 [I64 6,.s nm,.sl ([]:List Ty).length 3 (Ty.rows ([]:List Ty))] rfl (.cons .refl (.cons .refl (.cons .nil .nil)))) ?_
  refine so rfl ?_
  obtain ⟨r5,hr6,h⟩:=bT h
  refine O_cA [0] (EnInside_w b l hP hW  _ _ _ hr6) ?_
  rintro q7 cs' ⟨rfl,rfl⟩
  iterate 5 refine so rfl ?_
  refine so rfl ?_
  iterate 2 refine sc rfl ?_
  obtain ⟨m8,hm8,h⟩:=bT h
  refine C_join ⟨[(9,.s r5.1),(10,I64 r5.2),(32,B m8)],[.abs (vmA b l)]⟩ ?_ (fun s hm8s=>C_le _ hm8s ?_)
  ·refine sc rfl ?_
   iterate 3 refine so rfl ?_
   refine O_case 28 rfl (fun hb9=>?_) (fun hb9=>?_)
   ·replace hm8:=cT hb9 hm8
    iterate 4 refine so rfl ?_
    refine so rfl ?_
    obtain rfl:=osi hm8
    exact Le.sub [1000000] ⟨rfl,rfl,rfl,trivial⟩ rfl
   ·replace hm8:=cF hb9 hm8
    iterate 4 refine so rfl ?_
    refine so rfl ?_
    obtain rfl:=osi hm8
    exact Le.sub [1000000] ⟨rfl,rfl,rfl,trivial⟩ rfl
  refine C_if rfl (fun hb10=>?_) (fun hb10=>?_)
  ·replace h:=cT hb10 h
   iterate 2 refine sc rfl ?_
   iterate 2 refine so rfl ?_
   refine so rfl ?_
   refine sc rfl ?_
   obtain rfl:=osi h
   exact ⟨_,[_],_,rfl,pickA_perm (is:=[0]) (As:=[_]) rfl,rfl,rfl,rfl⟩
  ·replace h:=cF hb10 h
   iterate 3 refine sc rfl ?_
   iterate 4 refine so rfl ?_
   refine so rfl ?_
   refine sc rfl ?_
   obtain rfl:=osi h
   exact ⟨_,[_],_,rfl,pickA_perm (is:=[0]) (As:=[_]) rfl,rfl,rfl,rfl⟩
end Go.Proofs

namespace Go.Proofs
open Go.Sy Go.Lib

def errA (e:Int):AV:=.ifc 68 (.agg [I64 e])
abbrev tkrC (tk b:Nat) (most made:Int):Abs:=boxA tk 73 [PT b 0,I64 most,I64 made]
def FnX (f:FuncId) (args:List AV) (b:Nat) (l:List Dcl) (tk:Nat) (most made:Int) (res:Except Int (AV×Int)):Prop :=
 FnT Tryz.prog f args [vmA b l,tkrC tk b most made] (fun x cs'=>∃ m',res=.ok (x,m')∧cs'=[vmA b l,tkrC tk b most m']) (fun x cs'=>∃ e m',res=.error e∧x=errA e∧cs'=[vmA b l,tkrC tk b most m'])
theorem FnX.ok {f:FuncId} {args:List AV} {b:Nat} {l:List Dcl} {tk:Nat} {most made:Int} {x:AV} {m':Int} (h:FnX f args b l tk most made (.ok (x,m'))) :
  FnA Tryz.prog f args [vmA b l,tkrC tk b most made] (fun r cs'=>r=x∧cs'=[vmA b l,tkrC tk b most m']):=by
 refine (FnT.toA h (fun x cs' ⟨e,m2,h1,_⟩=>by cases h1)).mono ?_
 rintro r cs' ⟨m2,h1,h2⟩
 cases h1
 exact ⟨rfl,h2⟩
theorem FnX.err {f:FuncId} {args:List AV} {b:Nat} {l:List Dcl} {tk:Nat} {most made:Int} {e:Int} (h:FnX f args b l tk most made (.error e)) :
  FnThrow Tryz.prog f args [vmA b l,tkrC tk b most made] (fun x cs'=>x=errA e∧∃ m',cs'=[vmA b l,tkrC tk b most m']):=by
 refine (FnT.toThrow h (fun x cs' ⟨m2,h1,_⟩=>by cases h1)).mono ?_
 rintro x cs' ⟨e2,m2,h1,h2,h3⟩
 cases h1
 exact ⟨h2,m2,h3⟩

theorem must_p:FnP Tryz.prog 37 [I64 0] (·=.tup []):=by
 refine fnP Tryz.func37 fun X=>?_
 repeat (first|refine sc rfl ?_|refine so rfl ?_)
 refine C_false rfl rfl ?_
 repeat refine sc rfl ?_
 exact ⟨_,rfl,rfl,rfl⟩
theorem must_t (e:Int) (he:e≠0):FnThrow Tryz.prog 37 [I64 e] [] (fun x cs'=>x=errA e∧cs'=[]):=by
 refine FnT.toThrow (post:=fun _ _=>False) ?_ (fun _ _ h=>h)
 refine FnT.intro Tryz.tabOK Tryz.wide_ Tryz.func37 rfl (by decide) rfl (fun X hX=>?_)
 repeat (first|refine sc rfl ?_|refine so rfl ?_)
 refine C_true rfl (by simpa using he) ?_
 repeat (first|refine sc rfl ?_|refine so rfl ?_)
 refine O_Xd (X_ifc Tryz.underlying68 (fun ms h=>by cases h) rfl rfl rfl) ?_
 exact O_panic rfl rfl rfl (hX _ _ _ [] _ (.refl _) ⟨rfl,rfl⟩)

section
variable {T:Tab} {X:Ctx Tryz.prog T} {n:Nat} {ops:Array Oper} {K:St→Prop}
theorem O_must (is:List Nat) {e:Int} (he:e≠0) {thr:AV→List Abs→Prop} (hX:PanOK X thr) {dst:Option Nat} {args:Array Operand} {tys:Array TypeId} {ty:TypeId} {pos:String} {aft:Array Edge} {gd:Option (Nat×Bool)} {rest:List Oper} {cs:List Abs} {cr:List Ch}
  {s:List (Nat×AV)} {c:List Ch} (hg:guardA ops ⟨s,c⟩ ⟨dst,.call ⟨.value (.func 37),args,tys⟩,ty,pos,aft,gd⟩=some true) (ha:opds s args.toList=some [I64 e])
  (hp:pickA is c=some (cs,cr)) (ht:thr (errA e) cs):SymO X n ops (⟨dst,.call ⟨.value (.func 37),args,tys⟩,ty,pos,aft,gd⟩::rest) ⟨s,c⟩ K:=by
 refine O_throw [] (must_t e he) hg ha rfl rfl ?_
 rintro x cs' ⟨rfl,rfl⟩
 exact hX _ _ _ cs cr (pickA_perm hp) ht
end

def payF (most made k:Int):Except Int Int:=if max most 0<IntKind.i64.wrap (made+k) then .error 13 else .ok (IntKind.i64.wrap (made+k))
theorem pay_x (b:Nat) (l:List Dcl) (tk:Nat) (most made k:Int):FnX 23 [PT tk 0,I64 k] b l tk most made ((payF most made k).map (fun m=>(AV.tup [],m))):=by
 refine FnT.intro Tryz.tabOK Tryz.wide_ Tryz.func23 rfl (by decide) rfl (fun X hX=>?_)
 repeat (first|refine sc rfl ?_|refine so rfl ?_)
 refine O_loadP 1 (reads_box 2) rfl rfl rfl rfl rfl rfl ?_
 repeat refine so rfl ?_
 refine O_Xn (X_storeP 1 (writes_box (cells:=[PT b 0,I64 most,I64 made]) (o:=2) (Nat.lt_of_sub_eq_succ rfl)) rfl rfl rfl rfl rfl rfl rfl) ?_
 repeat (first|refine sc rfl ?_|refine so rfl ?_)
 refine C_drawD rfl (by kernel_rfl) ?_
 repeat refine sd rfl ?_
 refine D_X (I64 (IntKind.i64.wrap (made+k))) (X_loadP 0 (reads_box 2) rfl rfl rfl rfl rfl rfl) ?_
 repeat refine sd rfl ?_
 refine D_X (I64 most) (X_loadP 0 (reads_box 1) rfl rfl rfl rfl rfl rfl) ?_
 repeat refine sd rfl ?_
 repeat refine sc rfl ?_
 refine C_if rfl (fun c1=>?_) (fun c1=>?_)<;>simp only [pL] at c1
 ·have he:payF most made k=.error 13:=by unfold payF;exact if_pos c1
  repeat refine sc rfl ?_
  exact O_must [1,0] (by decide) hX (by rfl) (by rfl) (by rfl) ⟨13,_,by rw [he];rfl,rfl,rfl⟩
 ·have he:payF most made k=.ok (IntKind.i64.wrap (made+k)):=by unfold payF;exact if_neg c1
  repeat refine sc rfl ?_
  exact ⟨_,[_,_],_,rfl,pickA_perm (is:=[1,0]) (As:=[_,_]) rfl,rfl,_,by rw [he];rfl,rfl⟩
end Go.Proofs

namespace Go.Proofs
open Go.Sy Go.Lib

noncomputable def textF (s:List UInt8):Option (Except Int (List UInt8×List UInt8)) :=
 Option.bind (SpTake_F s (s.length:Nat)) fun q=>if q.2.2=3 then some (.error 2) else if q.2.2≠0 then some (.error q.2.2) else chk (0≤q.2.1∧q.2.1≤(s.length:Int)) (some (.ok (q.1,s.drop q.2.1.toNat)))
theorem text_x (s:List UInt8) (r:Except Int (List UInt8×List UInt8)) (h:textF s=some r) :
  FnT Tryz.prog 80 [.s s] [] (fun x cs'=>∃ q,r=.ok q∧x=.tup [.s q.1,.s q.2]∧cs'=[]) (fun x cs'=>∃ e,r=.error e∧x=errA e∧cs'=[]):=by
 unfold textF at h
 obtain ⟨q,hq,h⟩:=bT h
 refine FnT.intro Tryz.tabOK Tryz.wide_ Tryz.func80 rfl (by decide) rfl (fun X hX=>?_)
 repeat (first|refine sc rfl ?_|refine so rfl ?_)
 refine O_cP (SpTake_w _ _ _ hq) fun r' hr=>?_
 subst hr
 repeat (first|refine sc rfl ?_|refine so rfl ?_)
 refine C_if rfl (fun c1=>?_) (fun c1=>?_)<;>simp only [pL] at c1
 ·rw [if_pos c1] at h
  obtain rfl:=osi h
  repeat (first|refine sc rfl ?_|refine so rfl ?_)
  exact O_must [] (by decide) hX (by rfl) (by rfl) (by rfl) ⟨_,rfl,rfl,rfl⟩
 ·rw [if_neg c1] at h
  repeat (first|refine sc rfl ?_|refine so rfl ?_)
  by_cases c2:q.2.2=0
  ·rw [if_neg (by simpa using c2)] at h
   obtain ⟨hg,h⟩:=gT h
   obtain rfl:=osi h
   rw [c2]
   refine O_cP must_p fun r' hr=>?_
   subst hr
   repeat (first|refine sc rfl ?_|refine so rfl ?_)
   refine C_drawD rfl (by kernel_rfl) ?_
   iterate 3 refine sd rfl ?_
   refine sd rfl (And.intro hg ?_)
   repeat refine sd rfl ?_
   repeat refine sc rfl ?_
   exact ⟨_,[],_,rfl,.refl _,rfl,_,rfl,rfl,rfl⟩
  ·rw [if_pos c2] at h
   obtain rfl:=osi h
   exact O_must [] c2 hX (by rfl) (by rfl) (by rfl) ⟨_,rfl,rfl,rfl⟩

noncomputable def numWV (l:List Dcl) (t:Ty) (n:Int):Option (Except Int Val) :=
 if t.kind=1 then (if 1<n then some (.error 1) else some (.ok ⟨t.kind,IntKind.i64.wrap n,[],[],[]⟩))
 else if t.kind=2 then Option.bind (VBack_F n) (fun m=>some (.ok ⟨t.kind,m,[],[],[]⟩))
 else if t.kind=6 then (if 9999<n then some (.error 9) else Option.bind (DRow_F2 l t.name (IntKind.i64.wrap n)) (fun q=>if q.2 then some (.ok ⟨6,IntKind.i64.wrap n,[],[],[]⟩) else some (.error 9)))
 else some (.ok ⟨t.kind,IntKind.i64.wrap n,[],[],[]⟩)
noncomputable def numberF (l:List Dcl) (t:Ty) (s:List UInt8):Option (Except Int (Val×List UInt8)) :=
 Option.bind (VTake_F s) fun q=>if q.2.2≠0 then some (.error q.2.2) else Option.bind (numWV l t q.1) fun v =>
  match v with
  | .error e=>some (.error e)
  | .ok v=>chk (0≤q.2.1∧q.2.1≤(s.length:Int)) (some (.ok (v,s.drop q.2.1.toNat)))
theorem numWV_ok {l:List Dcl} {t:Ty} {n:Int} {v:Val} (h:numWV l t n=some (.ok v)):∃ k m,v=⟨k,m,[],[],[]⟩:=by
 unfold numWV at h
 split at h
 ·split at h
  ·cases h
  ·cases h;exact ⟨_,_,rfl⟩
 ·split at h
  ·obtain ⟨m,hm,h⟩:=bT h
   cases h;exact ⟨_,_,rfl⟩
  ·split at h
   ·split at h
    ·cases h
    ·obtain ⟨q,hq,h⟩:=bT h
     split at h
     ·cases h;exact ⟨_,_,rfl⟩
     ·cases h
   ·cases h;exact ⟨_,_,rfl⟩
def vrA (q:Val×List UInt8):AV:=.tup [.agg (Val.c q.1),.s q.2]
theorem number_x (b:Nat) (l:List Dcl) (hP:Prep l) (hW:WellL l) (tk:Nat) (most made:Int) (t:Ty) (s:List UInt8) (r:Except Int (Val×List UInt8)) (h:numberF l t s=some r) :
  FnX 79 [PT tk 0,.agg (Ty.c t),.s s] b l tk most made (r.map (fun q=>(vrA q,made))):=by
 unfold numberF at h
 obtain ⟨q,hq,h⟩:=bT h
 refine FnT.intro Tryz.tabOK Tryz.wide_ Tryz.func79 rfl (by decide) rfl (fun X hX=>?_)
 iterate 2 refine sc rfl ?_
 refine so rfl ?_
 refine O_le _ (Le.freezebox 4 rfl rfl rfl) ?_
 repeat (first|refine sc rfl ?_|refine so rfl ?_)
 refine O_cP (VTake_w _ _ hq) fun r' hr=>?_
 subst hr
 repeat (first|refine sc rfl ?_|refine so rfl ?_)
 by_cases c1:q.2.2=0
 rotate_left
 ·rw [if_pos c1] at h
  obtain rfl:=osi h
  exact O_must [1,1] c1 hX (by rfl) (by rfl) (by rfl) ⟨_,_,rfl,rfl,rfl⟩
 rw [if_neg (by simpa using c1)] at h
 rw [c1]
 refine O_cP must_p fun r' hr=>?_
 subst hr
 repeat (first|refine sc rfl ?_|refine so rfl ?_)
 obtain ⟨v,hv,h⟩:=bT h
 have hv0:=hv
 unfold numWV at hv
 cases v with
 | error e =>
  obtain rfl:=osi h
  refine C_if rfl (fun c2=>?_) (fun c2=>?_)<;>simp only [pL] at c2
  ·rw [if_pos c2] at hv
   repeat (first|refine sc rfl ?_|refine so rfl ?_)
   refine C_if rfl (fun c3=>?_) (fun c3=>?_)<;>simp only [pL] at c3
   ·rw [if_pos c3] at hv
    cases hv
    repeat refine sc rfl ?_
    exact O_must [2,2] (by decide) hX (by rfl) (by rfl) (by rfl) ⟨_,_,rfl,rfl,rfl⟩
   ·rw [if_neg c3] at hv
    cases hv
  ·rw [if_neg c2] at hv
   repeat (first|refine sc rfl ?_|refine so rfl ?_)
   refine C_if rfl (fun c3=>?_) (fun c3=>?_)<;>simp only [pL] at c3
   ·rw [if_pos c3] at hv
    obtain ⟨m,hm,hv⟩:=bT hv
    cases hv
   ·rw [if_neg c3] at hv
    repeat (first|refine sc rfl ?_|refine so rfl ?_)
    refine C_if rfl (fun c4=>?_) (fun c4=>?_)<;>simp only [pL] at c4
    ·rw [if_pos c4] at hv
     repeat (first|refine sc rfl ?_|refine so rfl ?_)
     refine C_if rfl (fun c5=>?_) (fun c5=>?_)<;>simp only [pL] at c5
     ·rw [if_pos c5] at hv
      cases hv
      repeat refine sc rfl ?_
      exact O_must [2,2] (by decide) hX (by rfl) (by rfl) (by rfl) ⟨_,_,rfl,rfl,rfl⟩
     ·rw [if_neg c5] at hv
      obtain ⟨w,hw,hv⟩:=bT hv
      repeat refine sc rfl ?_
      refine C_drawM (⟨[[],[],[],[],[],[],[],[],[],[],[],[],[],[0,1,2,3,4,5,6,7,8,9,10,12],[]],[12,13],[(12,12)],[]⟩:Pl) (fun L=>((bif L 12 then [.box 12 60 (bif L 13 then [I64 w.1.tag,.s w.1.name,I64 w.1.ty.kind,.s w.1.ty.name,.sl w.1.ty.of.length 3 (Ty.rows w.1.ty.of)] else [I64 0,.s [],I64 0,.s [],NIL])] else [])++[.box 11 26 [I64 6,I64 (IntKind.i64.wrap q.1),.s [],NIL,NIL],.box 6 26 [I64 0,I64 0,.s [],NIL,NIL],.abs (vmA b l),.abs (tkrC tk b most made)]:List Ch)) rfl (by kernel_rfl) (fun L L' h=>by show ((bif L 12 then [.box 12 60 (bif L 13 then [I64 w.1.tag,.s w.1.name,I64 w.1.ty.kind,.s w.1.ty.name,.sl w.1.ty.of.length 3 (Ty.rows w.1.ty.of)] else [I64 0,.s [],I64 0,.s [],NIL])] else [])++[.box 11 26 [I64 6,I64 (IntKind.i64.wrap q.1),.s [],NIL,NIL],.box 6 26 [I64 0,I64 0,.s [],NIL,NIL],.abs (vmA b l),.abs (tkrC tk b most made)]:List Ch)=((bif L' 12 then [.box 12 60 (bif L' 13 then [I64 w.1.tag,.s w.1.name,I64 w.1.ty.kind,.s w.1.ty.name,.sl w.1.ty.of.length 3 (Ty.rows w.1.ty.of)] else [I64 0,.s [],I64 0,.s [],NIL])] else [])++[.box 11 26 [I64 6,I64 (IntKind.i64.wrap q.1),.s [],NIL,NIL],.box 6 26 [I64 0,I64 0,.s [],NIL,NIL],.abs (vmA b l),.abs (tkrC tk b most made)]:List Ch);rw [h 12 (by decide),h 13 (by decide)]) rfl ?_
      refine sm rfl ⟨trivial,?_⟩
      refine sm rfl ⟨trivial,?_⟩
      refine sm rfl ⟨trivial,?_⟩
      refine SM (PT b 0) rfl (fun L h1 h2 h3=>?_) ?_
      ·show StepX _ _ _ _ _ ((bif L 12 then [.box 12 60 (bif L 13 then [I64 w.1.tag,.s w.1.name,I64 w.1.ty.kind,.s w.1.ty.name,.sl w.1.ty.of.length 3 (Ty.rows w.1.ty.of)] else [I64 0,.s [],I64 0,.s [],NIL])] else [])++[.box 11 26 [I64 6,I64 (IntKind.i64.wrap q.1),.s [],NIL,NIL],.box 6 26 [I64 0,I64 0,.s [],NIL,NIL],.abs (vmA b l),.abs (tkrC tk b most made)]:List Ch) ((bif L 12 then [.box 12 60 (bif L 13 then [I64 w.1.tag,.s w.1.name,I64 w.1.ty.kind,.s w.1.ty.name,.sl w.1.ty.of.length 3 (Ty.rows w.1.ty.of)] else [I64 0,.s [],I64 0,.s [],NIL])] else [])++[.box 11 26 [I64 6,I64 (IntKind.i64.wrap q.1),.s [],NIL,NIL],.box 6 26 [I64 0,I64 0,.s [],NIL,NIL],.abs (vmA b l),.abs (tkrC tk b most made)]:List Ch) _ _ _
       cases L 12<;>cases L 13<;>first|exact X_loadP 3 (reads_box 0) rfl rfl rfl rfl rfl rfl|exact X_loadP 4 (reads_box 0) rfl rfl rfl rfl rfl rfl
      refine sm rfl ⟨trivial,?_⟩
      refine sm rfl ⟨trivial,?_⟩
      refine sm rfl ⟨trivial,?_⟩
      refine sm rfl ⟨trivial,?_⟩
      refine SM (.tup [.agg (Fld.c w.1),B w.2]) rfl (fun L h1 h2 h3=>?_) ?_
      ·show StepX _ _ _ _ _ ((bif L 12 then [.box 12 60 (bif L 13 then [I64 w.1.tag,.s w.1.name,I64 w.1.ty.kind,.s w.1.ty.name,.sl w.1.ty.of.length 3 (Ty.rows w.1.ty.of)] else [I64 0,.s [],I64 0,.s [],NIL])] else [])++[.box 11 26 [I64 6,I64 (IntKind.i64.wrap q.1),.s [],NIL,NIL],.box 6 26 [I64 0,I64 0,.s [],NIL,NIL],.abs (vmA b l),.abs (tkrC tk b most made)]:List Ch) ((bif L 12 then [.box 12 60 (bif L 13 then [I64 w.1.tag,.s w.1.name,I64 w.1.ty.kind,.s w.1.ty.name,.sl w.1.ty.of.length 3 (Ty.rows w.1.ty.of)] else [I64 0,.s [],I64 0,.s [],NIL])] else [])++[.box 11 26 [I64 6,I64 (IntKind.i64.wrap q.1),.s [],NIL,NIL],.box 6 26 [I64 0,I64 0,.s [],NIL,NIL],.abs (vmA b l),.abs (tkrC tk b most made)]:List Ch) _ _ _
       cases L 12<;>cases L 13<;>first|exact X_callK [2] (vRow_w b l hP hW _ _ _ hw) rfl rfl rfl rfl rfl|exact X_callK [3] (vRow_w b l hP hW _ _ _ hw) rfl rfl rfl rfl rfl
      refine sm rfl ⟨trivial,?_⟩
      refine sm rfl ⟨trivial,?_⟩
      refine sm rfl ⟨trivial,?_⟩
      refine SM (.bp 12 0) rfl (fun L h1 h2 h3=>?_) ?_
      ·show StepX _ _ _ _ _ ((bif L 12 then [.box 12 60 (bif L 13 then [I64 w.1.tag,.s w.1.name,I64 w.1.ty.kind,.s w.1.ty.name,.sl w.1.ty.of.length 3 (Ty.rows w.1.ty.of)] else [I64 0,.s [],I64 0,.s [],NIL])] else [])++[.box 11 26 [I64 6,I64 (IntKind.i64.wrap q.1),.s [],NIL,NIL],.box 6 26 [I64 0,I64 0,.s [],NIL,NIL],.abs (vmA b l),.abs (tkrC tk b most made)]:List Ch) ((bif true then [.box 12 60 (bif (L 13) then [I64 w.1.tag,.s w.1.name,I64 w.1.ty.kind,.s w.1.ty.name,.sl w.1.ty.of.length 3 (Ty.rows w.1.ty.of)] else [I64 0,.s [],I64 0,.s [],NIL])] else [])++[.box 11 26 [I64 6,I64 (IntKind.i64.wrap q.1),.s [],NIL,NIL],.box 6 26 [I64 0,I64 0,.s [],NIL,NIL],.abs (vmA b l),.abs (tkrC tk b most made)]:List Ch) _ _ _
       rw [show L 12=false from h3,h2 13 (show (12:Nat)∈Pl.anc (⟨[[],[],[],[],[],[],[],[],[],[],[],[],[],[0,1,2,3,4,5,6,7,8,9,10,12],[]],[12,13],[(12,12)],[]⟩:Pl) 13 by decide)]
       exact X_alloc rfl rfl rfl rfl (show ((12,12):Nat×Nat)∈Pl.cre (⟨[[],[],[],[],[],[],[],[],[],[],[],[],[],[0,1,2,3,4,5,6,7,8,9,10,12],[]],[12,13],[(12,12)],[]⟩:Pl) by decide) rfl rfl rfl
      refine SM .bad rfl (fun L h1 h2 h3=>?_) ?_
      ·show StepX _ _ _ _ _ ((bif L 12 then [.box 12 60 (bif L 13 then [I64 w.1.tag,.s w.1.name,I64 w.1.ty.kind,.s w.1.ty.name,.sl w.1.ty.of.length 3 (Ty.rows w.1.ty.of)] else [I64 0,.s [],I64 0,.s [],NIL])] else [])++[.box 11 26 [I64 6,I64 (IntKind.i64.wrap q.1),.s [],NIL,NIL],.box 6 26 [I64 0,I64 0,.s [],NIL,NIL],.abs (vmA b l),.abs (tkrC tk b most made)]:List Ch) ((bif (L 12) then [.box 12 60 (bif true then [I64 w.1.tag,.s w.1.name,I64 w.1.ty.kind,.s w.1.ty.name,.sl w.1.ty.of.length 3 (Ty.rows w.1.ty.of)] else [I64 0,.s [],I64 0,.s [],NIL])] else [])++[.box 11 26 [I64 6,I64 (IntKind.i64.wrap q.1),.s [],NIL,NIL],.box 6 26 [I64 0,I64 0,.s [],NIL,NIL],.abs (vmA b l),.abs (tkrC tk b most made)]:List Ch) _ _ _
       rw [show L 13=false from h3,h1 12 (show (12:Nat)∈Pl.anc (⟨[[],[],[],[],[],[],[],[],[],[],[],[],[],[0,1,2,3,4,5,6,7,8,9,10,12],[]],[12,13],[(12,12)],[]⟩:Pl) 13 by decide)]
       exact X_storeK rfl rfl rfl rfl rfl rfl rfl rfl rfl
      refine sm rfl ⟨trivial,?_⟩
      refine sm rfl ?_
      show SymC _ _ _ ⟨_,[.box 12 60 [I64 w.1.tag,.s w.1.name,I64 w.1.ty.kind,.s w.1.ty.name,.sl w.1.ty.of.length 3 (Ty.rows w.1.ty.of)]]++[.box 11 26 [I64 6,I64 (IntKind.i64.wrap q.1),.s [],NIL,NIL],.box 6 26 [I64 0,I64 0,.s [],NIL,NIL],.abs (vmA b l),.abs (tkrC tk b most made)]⟩ _
      repeat (first|refine sc rfl ?_|refine so rfl ?_)
      refine C_if rfl (fun c6=>?_) (fun c6=>?_)<;>simp only [pL] at c6
      ·rw [c6] at hv
       cases hv
       repeat refine sc rfl ?_
       exact O_must [3,3] (by decide) hX (by rfl) (by rfl) (by rfl) ⟨_,_,rfl,rfl,rfl⟩
      ·rw [c6] at hv
       cases hv
    ·rw [if_neg c4] at hv
     cases hv
 | ok v =>
  simp only [] at h
  obtain ⟨hg,h⟩:=gT h
  obtain rfl:=osi h
  have hvv:=numWV_ok hv0
  clear hv0
  refine C_join ⟨[(0,PT tk 0),(2,.s s),(6,.bp 6 0),(9,I64 q.2.1),(11,.bp 11 0)],[.box 11 26 [I64 v.kind,I64 v.num,.s [],NIL,NIL],.box 6 26 [I64 0,I64 0,.s [],NIL,NIL],.abs (vmA b l),.abs (tkrC tk b most made)]⟩ ?_ (fun s hs=>C_le _ hs ?_)
  ·refine C_if rfl (fun c2=>?_) (fun c2=>?_)<;>simp only [pL] at c2
   ·rw [if_pos c2] at hv
    repeat (first|refine sc rfl ?_|refine so rfl ?_)
    refine C_if rfl (fun c3=>?_) (fun c3=>?_)<;>simp only [pL] at c3
    ·rw [if_pos c3] at hv
     cases hv
    ·rw [if_neg c3] at hv
     cases hv
     repeat refine sc rfl ?_
     exact Le.sub [11,6,1000000,1000000] ⟨rfl,rfl,rfl,rfl,rfl,trivial⟩ rfl
   ·rw [if_neg c2] at hv
    repeat (first|refine sc rfl ?_|refine so rfl ?_)
    refine C_if rfl (fun c3=>?_) (fun c3=>?_)<;>simp only [pL] at c3
    ·rw [if_pos c3] at hv
     obtain ⟨m,hm,hv⟩:=bT hv
     cases hv
     repeat (first|refine sc rfl ?_|refine so rfl ?_)
     refine O_cP (VBack_w _ _ hm) fun r' hr=>?_
     subst hr
     repeat refine so rfl ?_
     exact Le.sub [11,6,1000000,1000000] ⟨rfl,rfl,rfl,rfl,rfl,trivial⟩ rfl
    ·rw [if_neg c3] at hv
     repeat (first|refine sc rfl ?_|refine so rfl ?_)
     refine C_if rfl (fun c4=>?_) (fun c4=>?_)<;>simp only [pL] at c4
     ·rw [if_pos c4] at hv
      repeat (first|refine sc rfl ?_|refine so rfl ?_)
      refine C_if rfl (fun c5=>?_) (fun c5=>?_)<;>simp only [pL] at c5
      ·rw [if_pos c5] at hv
       cases hv
      rw [if_neg c5] at hv
      obtain ⟨w,hw,hv⟩:=bT hv
      repeat refine sc rfl ?_
      refine C_drawM (⟨[[],[],[],[],[],[],[],[],[],[],[],[],[],[0,1,2,3,4,5,6,7,8,9,10,12],[]],[12,13],[(12,12)],[]⟩:Pl) (fun L=>((bif L 12 then [.box 12 60 (bif L 13 then [I64 w.1.tag,.s w.1.name,I64 w.1.ty.kind,.s w.1.ty.name,.sl w.1.ty.of.length 3 (Ty.rows w.1.ty.of)] else [I64 0,.s [],I64 0,.s [],NIL])] else [])++[.box 11 26 [I64 6,I64 (IntKind.i64.wrap q.1),.s [],NIL,NIL],.box 6 26 [I64 0,I64 0,.s [],NIL,NIL],.abs (vmA b l),.abs (tkrC tk b most made)]:List Ch)) rfl (by kernel_rfl) (fun L L' h=>by show ((bif L 12 then [.box 12 60 (bif L 13 then [I64 w.1.tag,.s w.1.name,I64 w.1.ty.kind,.s w.1.ty.name,.sl w.1.ty.of.length 3 (Ty.rows w.1.ty.of)] else [I64 0,.s [],I64 0,.s [],NIL])] else [])++[.box 11 26 [I64 6,I64 (IntKind.i64.wrap q.1),.s [],NIL,NIL],.box 6 26 [I64 0,I64 0,.s [],NIL,NIL],.abs (vmA b l),.abs (tkrC tk b most made)]:List Ch)=((bif L' 12 then [.box 12 60 (bif L' 13 then [I64 w.1.tag,.s w.1.name,I64 w.1.ty.kind,.s w.1.ty.name,.sl w.1.ty.of.length 3 (Ty.rows w.1.ty.of)] else [I64 0,.s [],I64 0,.s [],NIL])] else [])++[.box 11 26 [I64 6,I64 (IntKind.i64.wrap q.1),.s [],NIL,NIL],.box 6 26 [I64 0,I64 0,.s [],NIL,NIL],.abs (vmA b l),.abs (tkrC tk b most made)]:List Ch);rw [h 12 (by decide),h 13 (by decide)]) rfl ?_
      refine sm rfl ⟨trivial,?_⟩
      refine sm rfl ⟨trivial,?_⟩
      refine sm rfl ⟨trivial,?_⟩
      refine SM (PT b 0) rfl (fun L h1 h2 h3=>?_) ?_
      ·show StepX _ _ _ _ _ ((bif L 12 then [.box 12 60 (bif L 13 then [I64 w.1.tag,.s w.1.name,I64 w.1.ty.kind,.s w.1.ty.name,.sl w.1.ty.of.length 3 (Ty.rows w.1.ty.of)] else [I64 0,.s [],I64 0,.s [],NIL])] else [])++[.box 11 26 [I64 6,I64 (IntKind.i64.wrap q.1),.s [],NIL,NIL],.box 6 26 [I64 0,I64 0,.s [],NIL,NIL],.abs (vmA b l),.abs (tkrC tk b most made)]:List Ch) ((bif L 12 then [.box 12 60 (bif L 13 then [I64 w.1.tag,.s w.1.name,I64 w.1.ty.kind,.s w.1.ty.name,.sl w.1.ty.of.length 3 (Ty.rows w.1.ty.of)] else [I64 0,.s [],I64 0,.s [],NIL])] else [])++[.box 11 26 [I64 6,I64 (IntKind.i64.wrap q.1),.s [],NIL,NIL],.box 6 26 [I64 0,I64 0,.s [],NIL,NIL],.abs (vmA b l),.abs (tkrC tk b most made)]:List Ch) _ _ _
       cases L 12<;>cases L 13<;>first|exact X_loadP 3 (reads_box 0) rfl rfl rfl rfl rfl rfl|exact X_loadP 4 (reads_box 0) rfl rfl rfl rfl rfl rfl
      refine sm rfl ⟨trivial,?_⟩
      refine sm rfl ⟨trivial,?_⟩
      refine sm rfl ⟨trivial,?_⟩
      refine sm rfl ⟨trivial,?_⟩
      refine SM (.tup [.agg (Fld.c w.1),B w.2]) rfl (fun L h1 h2 h3=>?_) ?_
      ·show StepX _ _ _ _ _ ((bif L 12 then [.box 12 60 (bif L 13 then [I64 w.1.tag,.s w.1.name,I64 w.1.ty.kind,.s w.1.ty.name,.sl w.1.ty.of.length 3 (Ty.rows w.1.ty.of)] else [I64 0,.s [],I64 0,.s [],NIL])] else [])++[.box 11 26 [I64 6,I64 (IntKind.i64.wrap q.1),.s [],NIL,NIL],.box 6 26 [I64 0,I64 0,.s [],NIL,NIL],.abs (vmA b l),.abs (tkrC tk b most made)]:List Ch) ((bif L 12 then [.box 12 60 (bif L 13 then [I64 w.1.tag,.s w.1.name,I64 w.1.ty.kind,.s w.1.ty.name,.sl w.1.ty.of.length 3 (Ty.rows w.1.ty.of)] else [I64 0,.s [],I64 0,.s [],NIL])] else [])++[.box 11 26 [I64 6,I64 (IntKind.i64.wrap q.1),.s [],NIL,NIL],.box 6 26 [I64 0,I64 0,.s [],NIL,NIL],.abs (vmA b l),.abs (tkrC tk b most made)]:List Ch) _ _ _
       cases L 12<;>cases L 13<;>first|exact X_callK [2] (vRow_w b l hP hW _ _ _ hw) rfl rfl rfl rfl rfl|exact X_callK [3] (vRow_w b l hP hW _ _ _ hw) rfl rfl rfl rfl rfl
      refine sm rfl ⟨trivial,?_⟩
      refine sm rfl ⟨trivial,?_⟩
      refine sm rfl ⟨trivial,?_⟩
      refine SM (.bp 12 0) rfl (fun L h1 h2 h3=>?_) ?_
      ·show StepX _ _ _ _ _ ((bif L 12 then [.box 12 60 (bif L 13 then [I64 w.1.tag,.s w.1.name,I64 w.1.ty.kind,.s w.1.ty.name,.sl w.1.ty.of.length 3 (Ty.rows w.1.ty.of)] else [I64 0,.s [],I64 0,.s [],NIL])] else [])++[.box 11 26 [I64 6,I64 (IntKind.i64.wrap q.1),.s [],NIL,NIL],.box 6 26 [I64 0,I64 0,.s [],NIL,NIL],.abs (vmA b l),.abs (tkrC tk b most made)]:List Ch) ((bif true then [.box 12 60 (bif (L 13) then [I64 w.1.tag,.s w.1.name,I64 w.1.ty.kind,.s w.1.ty.name,.sl w.1.ty.of.length 3 (Ty.rows w.1.ty.of)] else [I64 0,.s [],I64 0,.s [],NIL])] else [])++[.box 11 26 [I64 6,I64 (IntKind.i64.wrap q.1),.s [],NIL,NIL],.box 6 26 [I64 0,I64 0,.s [],NIL,NIL],.abs (vmA b l),.abs (tkrC tk b most made)]:List Ch) _ _ _
       rw [show L 12=false from h3,h2 13 (show (12:Nat)∈Pl.anc (⟨[[],[],[],[],[],[],[],[],[],[],[],[],[],[0,1,2,3,4,5,6,7,8,9,10,12],[]],[12,13],[(12,12)],[]⟩:Pl) 13 by decide)]
       exact X_alloc rfl rfl rfl rfl (show ((12,12):Nat×Nat)∈Pl.cre (⟨[[],[],[],[],[],[],[],[],[],[],[],[],[],[0,1,2,3,4,5,6,7,8,9,10,12],[]],[12,13],[(12,12)],[]⟩:Pl) by decide) rfl rfl rfl
      refine SM .bad rfl (fun L h1 h2 h3=>?_) ?_
      ·show StepX _ _ _ _ _ ((bif L 12 then [.box 12 60 (bif L 13 then [I64 w.1.tag,.s w.1.name,I64 w.1.ty.kind,.s w.1.ty.name,.sl w.1.ty.of.length 3 (Ty.rows w.1.ty.of)] else [I64 0,.s [],I64 0,.s [],NIL])] else [])++[.box 11 26 [I64 6,I64 (IntKind.i64.wrap q.1),.s [],NIL,NIL],.box 6 26 [I64 0,I64 0,.s [],NIL,NIL],.abs (vmA b l),.abs (tkrC tk b most made)]:List Ch) ((bif (L 12) then [.box 12 60 (bif true then [I64 w.1.tag,.s w.1.name,I64 w.1.ty.kind,.s w.1.ty.name,.sl w.1.ty.of.length 3 (Ty.rows w.1.ty.of)] else [I64 0,.s [],I64 0,.s [],NIL])] else [])++[.box 11 26 [I64 6,I64 (IntKind.i64.wrap q.1),.s [],NIL,NIL],.box 6 26 [I64 0,I64 0,.s [],NIL,NIL],.abs (vmA b l),.abs (tkrC tk b most made)]:List Ch) _ _ _
       rw [show L 13=false from h3,h1 12 (show (12:Nat)∈Pl.anc (⟨[[],[],[],[],[],[],[],[],[],[],[],[],[],[0,1,2,3,4,5,6,7,8,9,10,12],[]],[12,13],[(12,12)],[]⟩:Pl) 13 by decide)]
       exact X_storeK rfl rfl rfl rfl rfl rfl rfl rfl rfl
      refine sm rfl ⟨trivial,?_⟩
      refine sm rfl ?_
      show SymC _ _ _ ⟨_,[.box 12 60 [I64 w.1.tag,.s w.1.name,I64 w.1.ty.kind,.s w.1.ty.name,.sl w.1.ty.of.length 3 (Ty.rows w.1.ty.of)]]++[.box 11 26 [I64 6,I64 (IntKind.i64.wrap q.1),.s [],NIL,NIL],.box 6 26 [I64 0,I64 0,.s [],NIL,NIL],.abs (vmA b l),.abs (tkrC tk b most made)]⟩ _
      repeat (first|refine sc rfl ?_|refine so rfl ?_)
      refine C_if rfl (fun c6=>?_) (fun c6=>?_)<;>simp only [pL] at c6
      ·rw [c6] at hv
       cases hv
      ·rw [c6] at hv
       cases hv
       repeat refine sc rfl ?_
       exact Le.sub [11,6,1000000,1000000] ⟨rfl,rfl,rfl,rfl,rfl,trivial⟩ rfl
     ·rw [if_neg c4] at hv
      cases hv
      repeat refine sc rfl ?_
      exact Le.sub [11,6,1000000,1000000] ⟨rfl,rfl,rfl,rfl,rfl,trivial⟩ rfl
  repeat refine sc rfl ?_
  refine C_le _ (Le.freezebox 11 rfl rfl rfl) ?_
  refine C_drawM (⟨[[],[],[],[],[0],[]],[4],[],[]⟩:Pl) (fun L=>([.box 6 26 (bif L 4 then [I64 v.kind,I64 v.num,.s [],NIL,NIL] else [I64 0,I64 0,.s [],NIL,NIL]),.abs (vmA b l),.abs (tkrC tk b most made)]:List Ch)) rfl (by kernel_rfl) (fun L L' h=>by show ([.box 6 26 (bif L 4 then [I64 v.kind,I64 v.num,.s [],NIL,NIL] else [I64 0,I64 0,.s [],NIL,NIL]),.abs (vmA b l),.abs (tkrC tk b most made)]:List Ch)=([.box 6 26 (bif L' 4 then [I64 v.kind,I64 v.num,.s [],NIL,NIL] else [I64 0,I64 0,.s [],NIL,NIL]),.abs (vmA b l),.abs (tkrC tk b most made)]:List Ch);rw [h 4 (by decide)]) rfl ?_
  refine sm rfl ⟨trivial,?_⟩
  refine sm rfl ⟨trivial,?_⟩
  refine sm rfl ⟨trivial,?_⟩
  refine sm rfl ⟨hg,?_⟩
  refine SM .bad rfl (fun L h1 h2 h3=>?_) ?_
  ·show StepX _ _ _ _ _ ([.box 6 26 (bif L 4 then [I64 v.kind,I64 v.num,.s [],NIL,NIL] else [I64 0,I64 0,.s [],NIL,NIL]),.abs (vmA b l),.abs (tkrC tk b most made)]:List Ch) ([.box 6 26 [I64 v.kind,I64 v.num,.s [],NIL,NIL],.abs (vmA b l),.abs (tkrC tk b most made)]:List Ch) _ _ _
   rw [show L 4=false from h3]
   exact X_storeK rfl rfl rfl rfl rfl rfl rfl rfl rfl
  refine sm rfl ⟨trivial,?_⟩
  refine sm rfl ?_
  show SymC _ _ _ ⟨_,[.box 6 26 [I64 v.kind,I64 v.num,.s [],NIL,NIL],.abs (vmA b l),.abs (tkrC tk b most made)]⟩ _
  obtain ⟨vk,vm,rfl⟩:=hvv
  refine C_le _ (Le.boxsub 6 [I64 vk,I64 vm,.s [],SL 1 INTc ([]:List Int),.sl ([]:List Val).length 5 (Val.rows ([]:List Val))] rfl (.cons .refl (.cons .refl (.cons .refl (.cons .nil (.cons .nil .nil)))))) ?_
  repeat refine sc rfl ?_
  exact ⟨_,[_,_],_,rfl,pickA_perm (is:=[1,1]) (As:=[_,_]) rfl,rfl,_,rfl,rfl⟩
end Go.Proofs

namespace Go.Proofs
open Go.Sy Go.Lib

structure Ky where
 tag:Int
 w:Int
 fld:Fld
 is:Bool
 rest:List UInt8
def kyA (q:Ky):AV:=.tup [I64 q.tag,I64 q.w,.agg (Fld.c q.fld),B q.is,.s q.rest]
noncomputable def keyF (l:List Dcl) (nm s:List UInt8):Option (Except Int Ky) :=
 Option.bind (KTake_F s) fun q=>if q.2.2.2≠0 then some (.error q.2.2.2) else Option.bind (DRow_F2 l nm q.1) fun w =>
  chk (0≤q.2.2.1∧q.2.2.1≤(s.length:Int)) (some (.ok ⟨q.1,q.2.1,w.1,w.2,s.drop q.2.2.1.toNat⟩))
theorem key_x (b:Nat) (l:List Dcl) (hP:Prep l) (hW:WellL l) (tk:Nat) (most made:Int) (nm s:List UInt8) (r:Except Int Ky) (h:keyF l nm s=some r) :
  FnX 38 [PT tk 0,.s nm,.s s] b l tk most made (r.map (fun q=>(kyA q,made))):=by
 unfold keyF at h
 obtain ⟨q,hq,h⟩:=bT h
 refine FnT.intro Tryz.tabOK Tryz.wide_ Tryz.func38 rfl (by decide) rfl (fun X hX=>?_)
 repeat (first|refine sc rfl ?_|refine so rfl ?_)
 refine O_cP (KTake_w _ _ hq) fun r' hr=>?_
 subst hr
 repeat (first|refine sc rfl ?_|refine so rfl ?_)
 by_cases c1:q.2.2.2=0
 rotate_left
 ·rw [if_pos c1] at h
  obtain rfl:=osi h
  exact O_must [1,1] c1 hX (by rfl) (by rfl) (by rfl) ⟨_,_,rfl,rfl,rfl⟩
 rw [if_neg (by simpa using c1)] at h
 obtain ⟨w,hw,h⟩:=bT h
 obtain ⟨hg,h⟩:=gT h
 obtain rfl:=osi h
 rw [c1]
 refine O_cP must_p fun r' hr=>?_
 subst hr
 repeat (first|refine sc rfl ?_|refine so rfl ?_)
 refine O_loadP 2 (reads_box 0) rfl rfl rfl rfl rfl rfl ?_
 repeat refine so rfl ?_
 refine O_cA [1] (vRow_w b l hP hW _ _ _ hw) ?_
 rintro r' cs' ⟨rfl,rfl⟩
 repeat (first|refine sc rfl ?_|refine so rfl ?_)
 refine C_le _ (Le.freezebox 15 rfl rfl rfl) ?_
 refine C_le _ (Le.order [1,0,0] rfl) ?_
 refine C_drawM (⟨[[],[],[],[],[],[],[],[],[],[0,1,2,7,8],[],[]],[9],[],[]⟩:Pl) (fun L=>([.box 8 60 (bif L 9 then [I64 w.1.tag,.s w.1.name,I64 w.1.ty.kind,.s w.1.ty.name,.sl w.1.ty.of.length 3 (Ty.rows w.1.ty.of)] else [I64 0,.s [],I64 0,.s [],NIL]),.abs (vmA b l),.abs (tkrC tk b most made)]:List Ch)) rfl (by kernel_rfl) (fun L L' h=>by show ([.box 8 60 (bif L 9 then [I64 w.1.tag,.s w.1.name,I64 w.1.ty.kind,.s w.1.ty.name,.sl w.1.ty.of.length 3 (Ty.rows w.1.ty.of)] else [I64 0,.s [],I64 0,.s [],NIL]),.abs (vmA b l),.abs (tkrC tk b most made)]:List Ch)=([.box 8 60 (bif L' 9 then [I64 w.1.tag,.s w.1.name,I64 w.1.ty.kind,.s w.1.ty.name,.sl w.1.ty.of.length 3 (Ty.rows w.1.ty.of)] else [I64 0,.s [],I64 0,.s [],NIL]),.abs (vmA b l),.abs (tkrC tk b most made)]:List Ch);rw [h 9 (by decide)]) rfl ?_
 refine sm rfl ⟨trivial,?_⟩
 refine sm rfl ⟨trivial,?_⟩
 refine sm rfl ⟨trivial,?_⟩
 refine sm rfl ⟨trivial,?_⟩
 refine sm rfl ⟨trivial,?_⟩
 refine sm rfl ⟨trivial,?_⟩
 refine sm rfl ⟨hg,?_⟩
 refine sm rfl ⟨trivial,?_⟩
 refine sm rfl ⟨trivial,?_⟩
 refine SM .bad rfl (fun L h1 h2 h3=>?_) ?_
 ·show StepX _ _ _ _ _ ([.box 8 60 (bif L 9 then [I64 w.1.tag,.s w.1.name,I64 w.1.ty.kind,.s w.1.ty.name,.sl w.1.ty.of.length 3 (Ty.rows w.1.ty.of)] else [I64 0,.s [],I64 0,.s [],NIL]),.abs (vmA b l),.abs (tkrC tk b most made)]:List Ch) ([.box 8 60 [I64 w.1.tag,.s w.1.name,I64 w.1.ty.kind,.s w.1.ty.name,.sl w.1.ty.of.length 3 (Ty.rows w.1.ty.of)],.abs (vmA b l),.abs (tkrC tk b most made)]:List Ch) _ _ _
  rw [show L 9=false from h3]
  exact X_storeK rfl rfl rfl rfl rfl rfl rfl rfl rfl
 refine sm rfl ⟨trivial,?_⟩
 refine sm rfl ⟨trivial,?_⟩
 refine sm rfl ?_
 show SymC _ _ _ ⟨_,([.box 8 60 [I64 w.1.tag,.s w.1.name,I64 w.1.ty.kind,.s w.1.ty.name,.sl w.1.ty.of.length 3 (Ty.rows w.1.ty.of)],.abs (vmA b l),.abs (tkrC tk b most made)]:List Ch)⟩ _
 repeat refine sc rfl ?_
 exact ⟨_,[_,_],_,rfl,pickA_perm (is:=[1,1]) (As:=[_,_]) rfl,rfl,_,rfl,rfl⟩
end Go.Proofs

namespace Go.Proofs
open Go.Sy Go.Lib

section
variable {T:Tab} {X:Ctx Tryz.prog T} {n:Nat} {ops:Array Oper} {K:St→Prop}
theorem O_errX (is:List Nat) {f:FuncId} {avs:List AV} {b:Nat} {l:List Dcl} {tk:Nat} {most made e:Int} (hf:FnX f avs b l tk most made (.error e)) {thr:AV→List Abs→Prop} (hX:PanOK X thr) {dst:Option Nat} {args:Array Operand} {tys:Array TypeId} {ty:TypeId} {pos:String} {aft:Array Edge} {gd:Option (Nat×Bool)} {rest:List Oper} {cr:List Ch}
  {s:List (Nat×AV)} {c:List Ch} (hg:guardA ops ⟨s,c⟩ ⟨dst,.call ⟨.value (.func f),args,tys⟩,ty,pos,aft,gd⟩=some true) (ha:opds s args.toList=some avs) (himm:AV.imm.immL avs=true)
  (hp:pickA is c=some ([vmA b l,tkrC tk b most made],cr)) (ht:∀ m',thr (errA e) [vmA b l,tkrC tk b most m']):SymO X n ops (⟨dst,.call ⟨.value (.func f),args,tys⟩,ty,pos,aft,gd⟩::rest) ⟨s,c⟩ K:=by
 refine O_throw is hf.err hg ha himm hp ?_
 rintro x cs' ⟨rfl,m',rfl⟩
 exact hX _ _ _ _ cr (.refl _) (ht m')
end

abbrev DRec:=Ty→List UInt8→Int→Int→Option (Except Int (Val×List UInt8×Int))
def DRecOK (b:Nat) (l:List Dcl) (tk:Nat) (most:Int) (rec:DRec):Prop:=∀ t s deep made r,rec t s deep made=some r →
 FnX 41 [PT tk 0,.agg (Ty.c t),.s s,I64 deep] b l tk most made (r.map (fun q=>(vrA (q.1,q.2.1),q.2.2)))

noncomputable def unionF (l:List Dcl) (rec:DRec) (nm s:List UInt8) (deep made:Int):Option (Except Int (Val×Int)) :=
 if s=[] then some (.error 12) else Option.bind (keyF l nm s) fun r=>match r with
  | .error e=>some (.error e)
  | .ok k=>if k.is=false then some (.error 9) else Option.bind (DWire_X l FU k.fld.ty) fun w=>if k.w≠w then some (.error 4) else
   Option.bind (rec k.fld.ty k.rest (IntKind.i64.wrap (deep+1)) made) fun r2=>match r2 with
    | .error e=>some (.error e)
    | .ok q=>if q.2.1≠[] then some (.error 1) else some (.ok (⟨10,0,[],[k.tag],[q.1]⟩,q.2.2))
theorem union_x (b:Nat) (l:List Dcl) (hP:Prep l) (hW:WellL l) (tk:Nat) (most:Int) (rec:DRec) (hrec:DRecOK b l tk most rec) (made:Int) (nm s:List UInt8) (deep:Int) (r:Except Int (Val×Int)) (h:unionF l rec nm s deep made=some r) :
  FnX 119 [PT tk 0,.s nm,.s s,I64 deep] b l tk most made (r.map (fun q=>(AV.agg (Val.c q.1),q.2))):=by
 unfold unionF at h
 refine FnT.intro Tryz.tabOK Tryz.wide_ Tryz.func119 rfl (by decide) rfl (fun X hX=>?_)
 repeat (first|refine sc rfl ?_|refine so rfl ?_)
 refine C_if rfl (fun c1=>?_) (fun c1=>?_)<;>simp only [pL] at c1
 ·rw [if_pos c1] at h
  obtain rfl:=osi h
  repeat refine sc rfl ?_
  exact O_must [1,1] (by decide) hX (by rfl) (by rfl) (by rfl) ⟨_,_,rfl,rfl,rfl⟩
 rw [if_neg c1] at h
 obtain ⟨k,hk,h⟩:=bT h
 repeat (first|refine sc rfl ?_|refine so rfl ?_)
 cases k with
 | error e =>
  obtain rfl:=osi h
  exact O_errX [1,1] (key_x b l hP hW tk most made _ _ _ hk) hX (by rfl) (by rfl) (by rfl) (by rfl) (fun m'=>⟨_,_,rfl,rfl,rfl⟩)
 | ok k =>
  simp only [] at h
  refine O_cA [1,1] (FnX.ok (key_x b l hP hW tk most made _ _ _ hk)) ?_
  rintro r' cs' ⟨rfl,rfl⟩
  repeat (first|refine sc rfl ?_|refine so rfl ?_)
  refine C_if rfl (fun c2=>?_) (fun c2=>?_)<;>simp only [pL] at c2
  ·rw [if_pos c2] at h
   obtain rfl:=osi h
   repeat refine sc rfl ?_
   exact O_must [1,1] (by decide) hX (by rfl) (by rfl) (by rfl) ⟨_,_,rfl,rfl,rfl⟩
  rw [if_neg (by simp [c2])] at h
  obtain ⟨w,hw,h⟩:=bT h
  repeat refine sc rfl ?_
  refine C_drawD rfl (by kernel_rfl) ?_
  repeat refine sd rfl ?_
  refine D_X (PT b 0) (X_loadP 2 (reads_box 0) rfl rfl rfl rfl rfl rfl) ?_
  repeat refine sd rfl ?_
  refine D_callA [1] (DWire_w b l hP hW _ _ hw) rfl rfl rfl rfl rfl ?_
  repeat refine sd rfl ?_
  repeat refine sc rfl ?_
  refine C_if rfl (fun c3=>?_) (fun c3=>?_)<;>simp only [pL] at c3
  ·rw [if_pos c3] at h
   obtain rfl:=osi h
   repeat refine sc rfl ?_
   exact O_must [1,1] (by decide) hX (by rfl) (by rfl) (by rfl) ⟨_,_,rfl,rfl,rfl⟩
  rw [if_neg (by simpa using c3)] at h
  obtain ⟨q,hq,h⟩:=bT h
  repeat (first|refine sc rfl ?_|refine so rfl ?_)
  cases q with
  | error e =>
   obtain rfl:=osi h
   exact O_errX [1,1] (hrec _ _ _ _ _ hq) hX (by rfl) (by rfl) (by rfl) (by rfl) (fun m'=>⟨_,_,rfl,rfl,rfl⟩)
  | ok q =>
   simp only [] at h
   refine O_cA [1,1] (FnX.ok (hrec _ _ _ _ _ hq)) ?_
   rintro r' cs' ⟨rfl,rfl⟩
   repeat (first|refine sc rfl ?_|refine so rfl ?_)
   refine C_if rfl (fun c4=>?_) (fun c4=>?_)<;>simp only [pL] at c4
   ·rw [if_pos c4] at h
    obtain rfl:=osi h
    repeat refine sc rfl ?_
    exact O_must [1,1] (by decide) hX (by rfl) (by rfl) (by rfl) ⟨_,_,rfl,rfl,rfl⟩
   rw [if_neg (by simpa using c4)] at h
   obtain rfl:=osi h
   repeat refine sc rfl ?_
   refine so rfl ?_
   refine sb rfl ?_
   refine O_le _ (Le.lit 55 INTc ([k.tag]:List Int) rfl rfl rfl (by intro j hj;match j,hj with|0,_=>rfl)) ?_
   refine so rfl ?_
   refine sb rfl ?_
   refine O_le _ (Le.lit 57 Val.c ([q.1]:List Val) rfl rfl rfl (by intro j hj;match j,hj with|0,_=>rfl)) ?_
   iterate 2 refine so rfl ?_
   refine O_le _ (Le.boxsub 8 [I64 10,I64 0,.s [],SL 1 INTc ([k.tag]:List Int),.sl ([q.1]:List Val).length 5 (Val.rows ([q.1]:List Val))] rfl (.cons .refl (.cons .refl (.cons .refl (.cons .refl (.cons (.row (fun i hi=>(Val.rows_eq _ i hi).symm)) .nil)))))) ?_
   repeat (first|refine sc rfl ?_|refine so rfl ?_)
   exact ⟨_,[_,_],_,rfl,pickA_perm (is:=[2,2]) (As:=[_,_]) rfl,rfl,_,rfl,rfl⟩
end Go.Proofs

namespace Go.Sy
open Go.RowKit
section
variable {P:Program} {T:Tab} {X:Ctx P T} {n:Nat} {e:Env} {st:St} {a:Act} {w:World} {ops:Array Oper} {K:St→Prop}

theorem X_aggC {p:Pl} {t:TypeId} {op:BinOp} {x y:Operand} {cs ds:List AV} {us vs:Array Value} {b:Bool} {d:Option Nat} {uy ty:TypeId} {pos:String} {aft:Array Edge} {gd:Option (Nat×Bool)} {j:Nat} {Si:List (Nat×AV)} {c:List Ch}
  (hu:∀ e (ys:List Value),RepL e cs ys→ys=us.toList) (hv:∀ e (ys:List Value),RepL e ds ys→ys=vs.toList) (hb:∀ w,(Op.equalIn 10000 t (.agg us) (.agg vs)).run P w=.ok b w) (hgt:P.eqGuardType P.depth t=false) (hop:op=.eql∨op=.neq)
  (hg:guardA ops ⟨Si,c⟩ ⟨d,.binOp op t x y uy,ty,pos,aft,gd⟩=some true) (hx:opd Si x=some (.agg cs)) (hy:opd Si y=some (.agg ds)) (hd:dstOK n d=true) :
  StepX X n ops p Si c c j ⟨d,.binOp op t x y uy,ty,pos,aft,gd⟩ (B (eqB op b)) :=
 StepX.val hg hd (fun e a w S r r'=>by
  have h1:=opd_sound r' hx
  have h2:=opd_sound r' hy
  simp only [Rep] at h1 h2
  obtain ⟨ys,e1,r1⟩:=h1
  obtain ⟨zs,e2,r2⟩:=h2
  have hy1:ys=us:=Array.ext' (hu e _ r1)
  have hz1:zs=vs:=Array.ext' (hv e _ r2)
  subst hy1 hz1
  refine ⟨.bool (eqB op b),w,e,?_,r,by simp [Rep]⟩
  rcases hop with rfl|rfl
  ·simp only [execOp,e1,e2,Sem.run_bind,run_eqGuard_agg w _ _ _ _ _ _ hgt,Result.andThen_ok,run_eql_struct,hb,Sem.run_pure,eqB]
  ·simp only [execOp,e1,e2,Sem.run_bind,run_eqGuard_agg w _ _ _ _ _ _ hgt,Result.andThen_ok,run_neq_struct,hb,Sem.run_pure,eqB])
end
end Go.Sy

namespace Go.Sy
open Go.RowKit

section
variable {P:Program} {T:Tab} {X:Ctx P T} {n:Nat} {e:Env} {st:St} {a:Act} {w:World} {ops:Array Oper} {K:St→Prop}

theorem RepL.setA {e:Env} {x y:AV} (h:∀ v,Rep e x v→Rep e y v):∀ {cs:List AV} {j:Nat} {ys:List Value},cs[j]?=some x→RepL e cs ys→RepL e (cs.set j y) ys
 | [],j,ys,hj,_=>by simp at hj
 | c::cs,0,ys,hj,r=>by
  simp only [List.getElem?_cons_zero,Option.some.injEq] at hj
  subst hj
  simp only [RepL,List.set_cons_zero] at r ⊢
  obtain ⟨z,zs,e1,r1,r2,r3⟩:=r
  exact ⟨z,zs,e1,h _ r1,r2,r3⟩
 | c::cs,j+1,ys,hj,r=>by
  simp only [List.getElem?_cons_succ] at hj
  simp only [RepL,List.set_cons_succ] at r ⊢
  obtain ⟨z,zs,e1,r1,r2,r3⟩:=r
  exact ⟨z,zs,e1,r1,r2,RepL.setA h hj r3⟩

theorem HeapOK.cell {e:Env} {w:World} {kk:Nat} {t0:TypeId} {cells:List AV} {rest:List Ch} {j:Nat} {x y:AV} (h:HeapOK X e w (.box kk t0 cells::rest)) (hj:cells[j]?=some x) (hxy:∀ v,Rep e x v→Rep e y v) :
  HeapOK X e w (.box kk t0 (cells.set j y)::rest) :=
 HeapOK.retell h (fun bs hb=>by
  obtain ⟨h1,arr,h2,h3⟩:=hb
  exact ⟨h1,arr,h2,RepL.setA hxy hj h3⟩)

theorem Rel.newHd {s:List (Nat×AV)} {c:List Ch} (r:Rel X n e ⟨s,c⟩ a w) (d:Nat) (v:Value) (hf:freshS d s=true) (hc:freshC d c=true):Rel X n { e with hd:=upd e.hd d v } ⟨s,c⟩ a w:=by
 have hnod:∀ {x:AV},x.no d=true→∀ j,x.no j=false→j≠d:=fun hx j hj he=>by subst he;rw [hx] at hj;cases hj
 have hid:∀ (q:Nat),q≠d→upd e.hd d v q=e.hd q:=fun q hq=>by simp [upd,hq]
 refine { r with slots:=?_,heap:=?_ }
 ·intro j x hx
  obtain ⟨v',h1,h2⟩:=r.slots j x hx
  exact ⟨v',h1,Rep.mono (e:=e) (f:={ e with hd:=upd e.hd d v }) (IM.le_refl _) x (fun q hq=>⟨rfl,hid q (hnod (freshS_get hf j x hx) q hq)⟩) h2⟩
 ·refine HeapOK.grow r.heap (IM.le_refl _) (fun x hcm j hj=>⟨rfl,hid j ?_⟩) (fun b hb=>rfl) (Nat.le_refl _) (fun b _ h=>h)
  intro he;subst he;rw [freshC_mem hc x hcm] at hj;cases hj

theorem Le.cellNil {s:List (Nat×AV)} {c rest:List Ch} (b j d:Nat) {kk:Nat} {t0:TypeId} {cells:List AV} (t:TypeId) (esz:Nat) (row:Nat→List AV) (hk:takeCh b c=some (.box kk t0 cells,rest)) (hj:cells[j]?=some (.v (.slice none 0 0)))
  (hf:freshS d s=true) (hc:freshC d c=true):Le X n ⟨s,c⟩ ⟨s,.box kk t0 (cells.set j (.own d))::.vec d t esz 0 row::rest⟩:=by
 intro e a w r
 have r1:=Rel.newHd r d (.slice none 0 0) hf hc
 have h1:=r1.heap.perm (takeCh_perm hk)
 have h2:=HeapOK.cell (y:=.own d) h1 hj (fun v hv=>by
  simp only [Rep] at hv ⊢
  subst hv
  exact ⟨by simp [upd],_,_,_,rfl⟩)
 have h3:=HeapOK.push (c':=.vec d t esz 0 row) (bs':=[]) h2 (IM.le_refl _) (fun _ _ _ _=>⟨rfl,rfl⟩) (fun b hb=>rfl)
  ⟨by simp [upd,Value.ownBlock],[],by simp only [upd,if_true];exact World.ownsRow_nil _ _ _ _,fun i hi=>by omega⟩ (by simp) (by simp) (by simp) (Nat.le_refl _) (fun b _ h=>h)
 exact ⟨_,{ r1 with slots:=r1.slots,heap:=h3.perm (.swap _ _ _) }⟩

theorem Le.cellRename {s s2:List (Nat×AV)} {c r1 r2:List Ch} (b j k d:Nat) {kv kk:Nat} {t t0:TypeId} {esz m:Nat} {row:Nat→List AV} {cells:List AV} (hk:takeCh k c=some (.vec kv t esz m row,r1)) (hb:takeCh b r1=some (.box kk t0 cells,r2)) (hj:cells[j]?=some (.own k))
  (hs2:subS s2 s) (hf:freshS d s2=true) (hc:freshC d c=true):Le X n ⟨s,c⟩ ⟨s2,.box kk t0 (cells.set j (.own d))::.vec d t esz m row::r2⟩:=by
 intro e a w r
 have hkv:kv=k:=kid_of_take hk
 subst hkv
 have r0:Rel X n e ⟨s2,c⟩ a w:=r.less (fun i x h=>subS_get hs2 i x h) (fun h=>h)
 have q1:=Rel.newHd r0 d (e.hd kv) hf hc
 have hp:c.Perm (.vec kv t esz m row::.box kk t0 cells::r2):=(takeCh_perm hk).trans (.cons _ (takeCh_perm hb))
 have hne:kv≠d:=by
  intro h;subst h
  have:=freshC_mem hc _ (hp.symm.subset (List.mem_cons_self ..))
  simp [Ch.no] at this
 have h1:=q1.heap.perm hp
 have h2:HeapOK X { e with hd:=upd e.hd d (e.hd kv) } w (.vec d t esz m row::.box kk t0 cells::r2):=HeapOK.retell h1 (fun bs hb=>by
  obtain ⟨h1,xs,h2,h3⟩:=hb
  have e1:upd e.hd d (e.hd kv) kv=e.hd kv:=by simp [upd,hne]
  have e2:upd e.hd d (e.hd kv) d=e.hd kv:=by simp [upd]
  simp only [e1] at h1 h2
  exact ⟨by simp only [e2];exact h1,xs,by simp only [e2];exact h2,h3⟩)
 have h3:=HeapOK.cell (y:=.own d) (h2.perm (.swap _ _ _)) hj (fun v hv=>by
  simp only [Rep] at hv ⊢
  obtain ⟨rfl,hs⟩:=hv
  exact ⟨by simp [upd],hs⟩)
 exact ⟨_,{ q1 with slots:=q1.slots,heap:=h3 }⟩

theorem Rel.freezeC {s:List (Nat×AV)} {c rest:List Ch} (r:Rel X n e ⟨s,c⟩ a w) {k kv:Nat} {t:TypeId} {esz m:Nat} {row:Nat→List AV} (hk:takeCh k c=some (.vec kv t esz m row,rest)) :
  ∃ f:Env,Rel X n f ⟨s,rest⟩ a w∧f.hd=e.hd∧RepI f.G (.sl m esz row) (e.hd k):=by
 have hkv:kv=k:=kid_of_take hk
 subst hkv
 have hh:=r.heap.perm (takeCh_perm hk)
 obtain ⟨bs,⟨hbs,xs,g1,g2⟩,_,hgood⟩:=hh.head
 have base:∀ (f:Env),IM.le e.G f.G→f.μ=e.μ→f.hd=e.hd→ImOK f.G w→(∀ b o v,f.G b o=some v→e.G b o=some v∨b∈bs)→f.G.m=e.G.m→Rel X n f ⟨s,rest⟩ a w:=by
  intro f hle hμ hhd him hnew hmm
  refine { r with slots:=?_,heap:=?_,im:=him.1,mz:=him.2,newm:=by rw [hmm];exact r.newm,le:=IM.le_trans r.le hle,new:=?_,fix:=by rw [hμ];exact r.fix }
  ·intro j x hx
   obtain ⟨v,q1,q2⟩:=r.slots j x hx
   exact ⟨v,q1,Rep.mono (e:=e) (f:=f) hle x (fun q _=>by rw [hμ,hhd];exact ⟨rfl,rfl⟩) q2⟩
  ·obtain ⟨pl,p1,p2,p3,p4⟩:=hh
   cases pl with
   | nil=>simp at p1
   | cons p pl =>
    simp only [List.map_cons,List.cons.injEq] at p1
    simp only [List.flatMap_cons] at p3 p4
    have hp:=p2 p (List.mem_cons_self ..)
    rw [p1.1] at hp
    have hpb:p.2=bs:=by rw [hp.1,hbs]
    obtain ⟨q1,q2,q3⟩:=List.nodup_append.1 p3
    refine ⟨pl,p1.2,fun q hq=>ChOK.keep (e:=e) hle q.1 (fun j _=>by rw [hμ,hhd];exact ⟨rfl,rfl⟩) (fun b _=>rfl) (p2 q (List.mem_cons_of_mem _ hq)),q2,fun b hb=>?_⟩
    obtain ⟨s1,s2,s3⟩:=p4 b (List.mem_append.2 (.inr hb))
    refine ⟨s1,s2,fun o=>?_,by rw [hmm];exact s3.2⟩
    cases hg:f.G b o with
    | none=>rfl
    | some v =>
     rcases hnew b o v hg with h|h
     ·rw [s3.1 o] at h;cases h
     ·rw [← hpb] at h;exact absurd rfl (q3 b h b hb)
  ·intro b o v hv
   rcases hnew b o v hv with h|h
   ·exact r.new b o v h
   ·exact .inr (hgood b h).2.1
 rcases g1.2 with ⟨hnil,hm⟩|⟨g,cap,cur,hsl,_,hg,hcap,hmax,hcs,htake⟩
 ·refine ⟨e,base e (IM.le_refl _) rfl rfl ⟨r.im,r.mz⟩ (fun b o v h=>.inl h) rfl,rfl,?_⟩
  simp only [RepI]
  exact ⟨none,0,by rw [hnil,hm],by omega,.inl hm⟩
 ·have hbs':bs=[g]:=by rw [hbs,hsl];rfl
  have hGg:e.G.free g:=(hgood g (by rw [hbs'];simp)).2.2
  let G':IM:=⟨fun b o=>if b=g∧o<m*esz then cur[o]? else e.G b o,e.G.m⟩
  have hle:IM.le e.G G':=by
   refine ⟨?_,fun _ _ h=>h⟩
   intro b o v hv
   show (if b=g∧o<m*esz then cur[o]? else e.G b o)=some v
   rw [if_neg]
   ·exact hv
   ·rintro ⟨rfl,_⟩;rw [hGg.1 o] at hv;cases hv
  refine ⟨{ e with G:=G' },base _ hle rfl rfl ⟨?_,?_⟩ ?_ rfl,rfl,?_⟩
  ·intro b o v hv
   have hv':(if b=g∧o<m*esz then cur[o]? else e.G b o)=some v:=hv
   split at hv'
   ·rename_i hc
    obtain ⟨rfl,_⟩:=hc
    rw [cell_of_row w b o cur t (0,0) hg]
    exact hv'
   ·exact r.im b o v hv'
  ·intro b x hx
   refine (r.mz b x hx).keep (H:=G') hle rfl (fun o v hv=>?_)
   have hv':(if b=g∧o<m*esz then cur[o]? else e.G b o)=some v:=hv
   split at hv'
   ·rename_i hc
    rw [hc.1,hGg.2] at hx;cases hx
   ·exact ⟨v,hv'⟩
  ·intro b o v hv
   have hv':(if b=g∧o<m*esz then cur[o]? else e.G b o)=some v:=hv
   split at hv'
   ·rename_i hc;rw [hbs',hc.1];exact .inr (by simp)
   ·exact .inl hv'
  ·simp only [RepI]
   refine ⟨some ⟨g,0,none⟩,cap,hsl,hcap,.inr ⟨g,0,rfl,fun q hq=>CellsAt.mk (fun j c hc=>?_)⟩⟩
   obtain ⟨z,z1,z2,z3⟩:=(g2 q hq).get j c hc
   have hj:j<esz:=by
    rcases Nat.lt_or_ge j esz with h|h
    ·exact h
    ·rw [List.getElem?_eq_none (by simp;omega)] at z1;cases z1
   have hlt:q*esz+j<m*esz:=by
    have:(q+1)*esz≤m*esz:=Nat.mul_le_mul_right _ hq
    rw [Nat.add_mul] at this;omega
   refine ⟨z,?_,RepI.mono hle c z2,z3⟩
   show (if g=g∧0+q*esz+j<m*esz then cur[0+q*esz+j]? else e.G g (0+q*esz+j))=some z
   rw [Nat.zero_add,if_pos ⟨rfl,hlt⟩]
   rw [List.getElem?_take,if_pos hj,List.getElem?_drop,← htake,List.getElem?_take,if_pos hlt] at z1
   simpa using z1

theorem Le.cellFreeze {s:List (Nat×AV)} {c r1 r2:List Ch} (b j k:Nat) {kv kk:Nat} {t t0:TypeId} {esz m:Nat} {row:Nat→List AV} {cells:List AV} (hk:takeCh k c=some (.vec kv t esz m row,r1)) (hb:takeCh b r1=some (.box kk t0 cells,r2)) (hj:cells[j]?=some (.own k)) :
  Le X n ⟨s,c⟩ ⟨s,.box kk t0 (cells.set j (.sl m esz row))::r2⟩:=by
 intro e a w r
 obtain ⟨f,q1,q2,q3⟩:=Rel.freezeC r hk
 have h3:=HeapOK.cell (y:=.sl m esz row) (q1.heap.perm (takeCh_perm hb)) hj (fun v hv=>by
  simp only [Rep] at hv ⊢
  obtain ⟨rfl,_⟩:=hv
  rw [q2]
  exact q3)
 exact ⟨f,{ q1 with slots:=q1.slots,heap:=h3 }⟩

theorem X_bsl {p:Pl} {Si:List (Nat×AV)} {c:List Ch} {i:Nat} {o:Oper} {el esz len:Nat} {cs:List AV} (hg:guardA ops ⟨Si,c⟩ o=some true) (hd:dstOK n o.dst=true) (hb:bslA T ⟨Si,c⟩ o.op=some (el,esz,len,cs)) :
  StepX X n ops p Si c c i o (.sl len esz (chunkRow esz cs)) :=
 StepX.val hg hd (fun e a w S r r'=>by
  obtain ⟨arr,b1,b2,b3,b4⟩:=bslA_sound r' hb
  let G':IM:=⟨fun b oo=>if b=w.heap.size then arr.toList[oo]? else e.G b oo,e.G.m⟩
  have hlt:∀ b o v,e.G b o=some v→b<w.heap.size:=fun b o v h=>Go.block_lt_of_cell (r.im b o v h)
  have hle:IM.le e.G G':=by
   refine ⟨?_,fun _ _ h=>h⟩
   intro b o v hv
   show (if b=w.heap.size then arr.toList[o]? else e.G b o)=some v
   rw [if_neg (by have:=hlt b o v hv;omega)]
   exact hv
  have hnew:(w.alloc (.cells arr el)).heap[w.heap.size]?=some (.cells arr el (0,0)):=Go.heap_alloc_new w _
  have him:ImOK G' (w.alloc (.cells arr el)):=by
   refine ⟨?_,fun b x hx=>(r.mz b x hx).keep (H:=G') hle (Go.heap_alloc_old w _ (r.mz b x hx).lt) (fun o v hv=>⟨v,by
    have hv':(if b=w.heap.size then arr.toList[o]? else e.G b o)=some v:=hv
    rw [if_neg (by have:=(r.mz b x hx).lt;omega)] at hv'
    exact hv'⟩)⟩
   intro b o v hv
   have hv':(if b=w.heap.size then arr.toList[o]? else e.G b o)=some v:=hv
   split at hv'
   ·rename_i hb;subst hb
    rw [cell_of_row _ _ o arr el (0,0) hnew]
    simpa using hv'
   ·have h1:=r.im b o v hv'
    simp only [World.cell?] at h1 ⊢
    rw [Go.heap_alloc_old w _ (hlt b o v hv')]
    exact h1
  have r2:=r.after hle ⟨fun b o v hv=>by
   have hv':(if b=w.heap.size then arr.toList[o]? else e.G b o)=some v:=hv
   split at hv'
   ·rename_i hb;exact .inr (by omega)
   ·exact .inl hv',fun _ _ h=>.inl h⟩ him ⟨rfl,rfl,rfl,by simp,fun b hb _=>Go.heap_alloc_old w _ hb⟩
  refine ⟨_,_,_,b4 w,r2,?_⟩
  simp only [Rep,RepI]
  refine ⟨_,len,rfl,Nat.le_refl _,.inr ⟨w.heap.size,0,rfl,fun q hq=>CellsAt.mk (fun j x hx=>?_)⟩⟩
  obtain ⟨z,z1,z2,z3⟩:=(b3 q hq).get j x hx
  have hj:j<esz:=by
   rcases Nat.lt_or_ge j esz with h|h
   ·exact h
   ·rw [List.getElem?_eq_none (by simp;omega)] at z1;cases z1
  refine ⟨z,?_,RepI.mono hle x z2,z3⟩
  show (if w.heap.size=w.heap.size then arr.toList[0+q*esz+j]? else _)=some z
  rw [if_pos rfl,Nat.zero_add]
  rw [List.getElem?_take,if_pos hj,List.getElem?_drop] at z1
  exact z1)

theorem X_appendK {p:Pl} {dst:Nat} {so_ xo:Operand} {t ty:TypeId} {pos:String} {aft:Array Edge} {gd:Option (Nat×Bool)} {j:Nat} {Si:List (Nat×AV)} {c r1:List Ch} {k:Nat} {el esz m m2 m3:Nat} {row row2 row3:Nat→List AV} {by_:Nat} {sz0 b0:Nat} {ag0 ag1:Bool} {z0 z1:List Value} {d1:TD}
  (hTs:T t=some ⟨sz0,b0,ag0,z0,.slice el⟩) (hTe:T el=some ⟨esz,by_,ag1,z1,d1⟩) (hpos:Nat.blt 0 esz=true)
  (hg:guardA ops ⟨Si,c⟩ ⟨some dst,.call ⟨.builtin .append,#[so_,xo],#[t,t]⟩,ty,pos,aft,gd⟩=some true)
  (hso:opd Si so_=some (.own k)) (hk:takeCh k c=some (.vec k el esz m row,r1))
  (hxo:opd Si xo=some (.sl m2 esz row2)) (hr2:∀ i,i<m2→(row2 i).length=esz)
  (hd:Nat.blt dst n=true) (hcre:(j,dst)∈p.cre) (hfc:freshC dst r1=true) (hki:p.ki=[])
  (hlen:(m+m2)*by_≤140737488355328) (hlen2:m+m2≤maxLen)
  (hm3:m3=m+m2) (hrow3:∀ i,i<m3→appRow m row row2 i=row3 i) :
  StepX X n ops p Si c (.vec dst el esz m3 row3::r1) j ⟨some dst,.call ⟨.builtin .append,#[so_,xo],#[t,t]⟩,ty,pos,aft,gd⟩ (.own dst):=by
 subst hm3
 intro e a w S K Q rS hS hcr hkk
 have r0:Rel X n e ⟨Si,c⟩ a w:=rS.less hS (fun h=>h)
 rw [if_pos (guardA_sound r0 hg)]
 have hfree:∀ k y,get S k=some y→y.no dst=true:=fun k y h=>hcr k y h (j,dst) hcre rfl
 have r:Rel X n e ⟨S.filter fun q=>q.2.no dst,c⟩ a w:=rS.less (fun k y h=>get_unfilter hfree h) (fun h=>h)
 obtain ⟨pi,z,i1,i2,i3,i4,i5,i6,i7⟩:=(X.ok _ _ hTe).info
 obtain ⟨dd,e1,_,e3⟩:=(X.ok _ _ hTs).desc
 simp only [TDOK] at e3
 subst e3
 have hso':=opd_sound r0 hso
 simp only [Rep] at hso'
 obtain ⟨hso',_⟩:=hso'
 have hh:=r.heap.perm (takeCh_perm hk)
 obtain ⟨bs,⟨hbs,xs,g1,g2⟩,_,hgood⟩:=hh.head
 have hzs:z.cells.size=esz:=by
  have:z.cells.toList.length=esz:=by rw [i5];exact i7
  simpa using this
 have hpos':0<esz:=by have:=hpos;simp [Nat.blt] at this;omega
 have hold:∀ b,(e.hd k).ownBlock=some b→b<w.heap.size∧(X.w0.heap.size≤b∨b∈X.bs)∧e.G.free b:=fun b hb=>hgood b (by rw [hbs,hb];simp)
 have hdis:∀ b,(e.hd k).ownBlock=some b→∀ pl:List (Ch×List Nat),pl.map (·.1)=r1→(∀ p∈pl,ChOK e w p.1 p.2)→b∉pl.flatMap (·.2):=by
  intro b hb pl hpl hok hin
  obtain ⟨pl',p1,p2,p3,p4⟩:=hh
  cases pl' with
  | nil=>simp at p1
  | cons p pl' =>
   simp only [List.map_cons,List.cons.injEq] at p1
   simp only [List.flatMap_cons] at p3
   have hp:=p2 p (List.mem_cons_self ..)
   rw [p1.1] at hp
   have heq:pl'=pl:=by
    have key:∀ (l1 l2:List (Ch×List Nat)),l1.map (·.1)=l2.map (·.1)→(∀ p∈l1,ChOK e w p.1 p.2)→(∀ p∈l2,ChOK e w p.1 p.2)→l1=l2:=by
     intro l1
     induction l1 with
     | nil=>intro l2 h _ _;cases l2 with
      | nil=>rfl
      | cons _ _=>simp at h
     | cons q l1 ih =>
      intro l2 h h1 h2
      cases l2 with
      | nil=>simp at h
      | cons q2 l2 =>
       simp only [List.map_cons,List.cons.injEq] at h
       have e1:=h1 q (List.mem_cons_self ..)
       have e2:=h2 q2 (List.mem_cons_self ..)
       rw [← h.1] at e2
       have:q.2=q2.2:=by
        cases hc:q.1 with
        | box k T cells=>rw [hc] at e1 e2;rw [e1.1,e2.1]
        | vec k T esz n row=>rw [hc] at e1 e2;rw [e1.1,e2.1]
        | obj k o=>rw [hc] at e1 e2;rw [e1.1,e2.1]
        | mapc k ks xs=>rw [hc] at e1 e2;rw [e1.1,e2.1]
        | abs A=>rw [hc] at e1 e2;rw [e1.1,e2.1]
       rw [ih l2 h.2 (fun p hp=>h1 p (List.mem_cons_of_mem _ hp)) (fun p hp=>h2 p (List.mem_cons_of_mem _ hp))]
       congr 1
       exact Prod.ext h.1 this
    exact key pl' pl (by rw [p1.2,hpl]) (fun p hp=>p2 p (List.mem_cons_of_mem _ hp)) hok
   subst heq
   have:=(List.nodup_append.1 p3).2.2 b (by rw [hp.1,hb];simp) b hin
   exact this rfl
 have hrowsOut:∀ {news:List Value},RowsL e.G esz m2 row2 news→RowsL e.G esz (m+m2) row3 (xs++news):=fun hn i hi=>by
  rw [← hrow3 i hi];exact rows_app g1.1 g2 hn i hi
 have fin:∀ {v':Value},UpdX p j (some dst) (.own dst) S ((dst,.own dst)::S.filter fun q=>q.2.no dst):=fun {v'}=>by
  refine ⟨?_,?_,?_⟩
  ·rintro d' h'
   cases h'
   rw [get_cons,if_pos rfl]
  ·intro k y hne hy _
   rw [get_cons,if_neg (fun h=>hne (by rw [h]))]
   exact get_filter hy (hfree k y hy)
  ·intro k y hy
   rw [get_cons] at hy
   by_cases h:dst=k
   ·rw [if_pos h] at hy
    simp only [Option.some.injEq] at hy
    exact .inl ⟨by rw [h],hy.symm⟩
   ·rw [if_neg h] at hy;exact .inr (.inl (get_unfilter hfree hy))
 rcases src_sl hxo hr2 e a w r0 with ⟨ad,cc,news,hx,hl,hnews,h1,hrn⟩|⟨hm2,cc,hx⟩
 ·obtain ⟨v',w',hr,q2,q3,q4⟩:=run_append_own (P:=P) w 0 t ty el pi z esz by_ e1 i1 i4 i2 i3 hzs hpos' (e.hd k) m xs g1 ad m2 cc news hl hnews h1 hlen2 hlen (Nat.zero_le _)
  refine .inl ?_
  unfold Oper.wp
  have hrun:(execOp a.eval ⟨some dst,.call ⟨.builtin .append,#[so_,xo],#[t,t]⟩,ty,pos,aft,gd⟩).run P w=.ok (.value v') w':=by
   simp only [execOp,resolve,invoke,builtin,Sem.run_bind,Sem.run_pure,Result.andThen_ok,List.map_toArray,List.map_cons,List.map_nil,hso',hx,hr]
  rw [hrun]
  have hblk:∀ b,v'.ownBlock=some b→b<w'.heap.size∧(some b=(e.hd k).ownBlock∨w.heap.size≤b):=by
   intro b hb
   refine ⟨(q2.lt b hb).2,?_⟩
   simp only at i2 i3
   subst i2 i3
   exact append_block t ty el pi z e1 i1 i4 (e.hd k) m xs g1 ad m2 cc news hl hnews h1 hlen2 hlen hr b hb
  have r2:=r.vec (d:=dst) (w':=w') (v':=v') (t:=el) (esz:=esz) (m:=m+m2) (row:=row3) (xs:=xs++news) (s:=S.filter fun q=>q.2.no dst) (c:=r1) (c':=r1) (e.hd k).ownBlock hd
   (fun i x hi=>hi) (freshS_filter dst S) hfc hh.drop hold hdis q2 (hrowsOut hrn) q3 hblk
  exact hkk _ _ _ _ r2 (fin (v':=v'))
 ·subst hm2
  have hrun0:=append_none t ty el pi e1 i1 (e.hd k) m xs g1 cc
  refine .inl ?_
  unfold Oper.wp
  have hrun:(execOp a.eval ⟨some dst,.call ⟨.builtin .append,#[so_,xo],#[t,t]⟩,ty,pos,aft,gd⟩).run P w=.ok (.value (e.hd k)) w:=by
   simp only [execOp,resolve,invoke,builtin,Sem.run_bind,Sem.run_pure,Result.andThen_ok,List.map_toArray,List.map_cons,List.map_nil,hso',hx,hrun0]
  rw [hrun]
  have hrn:RowsL e.G esz 0 row2 ([]:List Value):=fun i hi=>by omega
  have r2:=r.vec (d:=dst) (w':=w) (v':=e.hd k) (t:=el) (esz:=esz) (m:=m+0) (row:=row3) (xs:=xs++[]) (s:=S.filter fun q=>q.2.no dst) (c:=r1) (c':=r1) (e.hd k).ownBlock hd
   (fun i x hi=>hi) (freshS_filter dst S) hfc hh.drop hold hdis (by simpa using g1) (hrowsOut hrn) ⟨rfl,rfl,rfl,Nat.le_refl _,fun _ _ _=>rfl⟩ (fun b hb=>⟨(hold b hb).1,.inl hb.symm⟩)
  exact hkk _ _ _ _ r2 (fin (v':=e.hd k))
end
end Go.Sy
