/- Texts of a claim, merged. -/
import Derived.Test.YtekmbcbgknmhiaaGreatDoorLn6
import Derived.KernelRfl
open _root_.Go.Proofs.Tryz renaming underlying5→AcY,underlying23→Af7,underlying26→Aj3,underlying24→AjP,underlying86→AjY,underlying28→Ajx,underlying82→Aka
open Option renaming bind->Qq4,bind_some->Qq5,map->Qq7,toList_some->Qjb
open List renaming getD_eq_getElem?_getD->Qzq,getElem?_eq_getElem->Qzw,length_map->Qzk,length_cons->Qzj,length_append->Qzu,range->Qzv,mem_cons_of_mem->QzA,mem_singleton->Qzf,mem_cons_self->QzJ,mem_cons->Qzy,length_nil->Qze,mem_append->QzQ,length_take->QzK,take_of_length_le->Qxk,map_cons->Qzd,pairwise_cons->Qz0,append_nil->QzX,flatMap_cons->Qz6,getElem?_map->Qxy,getElem_mem->Qxj,mem_map->Qz8,mem_range->Qz7,nil_append->Qxz,take_add_one->QxX,length_range->QxA,length_singleton->QxC,map_append->Qxf,cons_append->QxZ,append_assoc->Qxd,countP_cons->Qx3,take_length->Qx4,range_succ->Qx2,mergeSort_perm->Qkz,countP_append->QkQ,drop_zero->QxD,pairwise_map->Qkk,pairwise_singleton->QkA,pairwise_mergeSort->Qk4,countP_congr->Qk7,countP_singleton->Qjv,countP_le_length->Qju,pairwise_append->Qja,range'->Qx8
open Int renaming toNat_natCast->Qq8,lt_trichotomy->Qke
open Prod renaming fst->Qq6,snd->QzZ
open Nat renaming le_refl->Qzx,le_trans->Qz2,zero_le->Qz5,lt_or_ge->Qxw,add_sub_cancel->Qkx,add_mul->Qx6
open Bool renaming and_eq_true->Qzb,or_eq_true->Qxq,false_ne_true->QkD
open ByteArray renaming size->Qxc
set_option linter.unusedVariables false
set_option linter.unusedSimpArgs false
set_option linter.unusedSectionVars false
noncomputable section
namespace Go.L
def Ap{α:Type}(m m':Option α):Prop:=∀ r,m=some r->m'=some r
theorem apR{α:Type}(m:Option α):Ap m m:=fun _ h=>h
theorem apB{α β:Type}{m m':Option α}{f f':α->Option β}(h:Ap m m')(k:∀ x,Ap (f x) (f' x)):Ap (Qq4 m f) (Qq4 m' f'):=fun r e=>by
 obtain⟨x,a,h2⟩:=bind_some e;rw [h x a,Qq5];exact k x r h2
theorem apC{α:Type}{p:Prop}[Decidable p]{m m':Option α}(h:Ap m m'):Ap (Go.L.AN p m) (Go.L.AN p m'):=fun r e=>by
 obtain⟨a,h2⟩:=GG e;rw [Ac a];exact h r h2
theorem apI{α:Type}{p:Prop}[Decidable p]{a b a' b':Option α}(h:Ap a a')(k:Ap b b'):Ap (if p then a else b) (if p then a' else b'):=fun r e=>by
 by_cases hp:p
 ·rw [if_pos hp] at e ⊢;exact h r e
 ·rw [if_neg hp] at e ⊢;exact k r e
theorem apM{α β:Type}{f:α->β}{m m':Option α}(h:Ap m m'):Ap (Qq7 f m) (Qq7 f m'):=fun r e=>by
 cases m with
 | none=>cases e
 | some x=>rw [h x Z];exact e
theorem apO{α β:Type}{x:Option α}{ex ex':Option β}{k k':α->Option β}(h:Ap ex ex')(hk:∀ y,Ap (k y) (k' y)):Ap (Go.L.ZS x ex k) (Go.L.ZS x ex' k'):=by
 cases x with
 | none=>exact h
 | some y=>exact hk y
theorem Ap.Ia{σ ρ:Type}{b b':σ->Option (σ ⊕ ρ)}(h:∀ s,Ap (b s) (b' s)):∀ (n:Nat) (s:σ),Ap (Ia b n s) (Ia b' n s)
 | 0,_=>fun _ e=>by cases e
 | n+1,s=>fun r e=>by
  obtain⟨m,x,hm,a,h2⟩:=AZ e;obtain rfl:n=m:=by omega
  rw [Go.L.Ia,h s x a]
  cases x with
  | inl s'=>exact Ap.Ia h n s' r h2
  | inr y=>exact congrArg some h2
theorem Ap.run{σ ρ:Type}{b b':σ->Option (σ ⊕ ρ)}(h:∀ s,Ap (b s) (b' s))(n:Nat)(s:σ):Ap (Go.L.Ia b n s) (Go.L.run b' s):=fun r e=>X8 (Ap.Ia h n s r e)
class Mi {α:Type} (m:Option α) where
 c:Option α
 h:Ap c m
noncomputable instance {α:Type} (x:α):Mi (some x):=⟨some x,apR _⟩
noncomputable instance {α:Type}:Mi (none:Option α):=⟨none,apR _⟩
noncomputable instance iB {α β:Type} (m:Option α) (f:α->Option β) [i:Mi m] [j:∀ x,Mi (f x)]:Mi (Qq4 m f):=⟨Qq4 i.c fun x=>(j x).c,apB i.h fun x=>(j x).h⟩
noncomputable instance iC {α:Type} (p:Prop) [Decidable p] (m:Option α) [i:Mi m]:Mi (Go.L.AN p m):=⟨Go.L.AN p i.c,apC i.h⟩
noncomputable instance iI {α:Type} (p:Prop) [Decidable p] (a b:Option α) [i:Mi a] [j:Mi b]:Mi (if p then a else b):=⟨if p then i.c else j.c,apI i.h j.h⟩
noncomputable instance {α β:Type} (f:α->β) (m:Option α) [i:Mi m]:Mi (Qq7 f m):=⟨Qq7 f i.c,apM i.h⟩
noncomputable instance {α β:Type} (x:Option α) (ex:Option β) (k:α->Option β) [i:Mi ex] [j:∀ y,Mi (k y)]:Mi (Go.L.ZS x ex k):=⟨Go.L.ZS x i.c fun y=>(j y).c,apO i.h fun y=>(j y).h⟩
noncomputable instance {σ ρ:Type} (b:σ->Option (σ ⊕ ρ)) (s:σ) [i:∀ s,Mi (b s)]:Mi (Go.L.run b s):=⟨Go.L.Ia (fun s=>(i s).c) 300 s,Ap.run (fun s=>(i s).h) 300 s⟩
end Go.L
namespace Go.L
def AcM{α:Type}(le:α->α->Bool)(a:α):List α->List α
 | []=>[a]
 | b::l=>if le a b then a::b::l else b::AcM le a l
def isB{α:Type}(le:α->α->Bool):List α->List α
 | []=>[]
 | a::l=>AcM le a (isB le l)
section
variable {α:Type} {le:α->α->Bool}
theorem TF(a:α):∀ l:List α,(AcM le a l).Perm (a::l)
 | []=>.refl _
 | b::l=>by
  unfold AcM
  split
  ·exact .refl _
  ·exact((TF a l).cons b).trans (.swap a b l)
theorem Z8:∀ l:List α,(isB le l).Perm l
 | []=>.refl _
 | a::l=>(TF a _).trans ((Z8 l).cons a)
theorem Ud(htr:∀ a b c,le a b=true->le b c=true->le a c=true)(hto:∀ a b,le a b=true\/le b a=true)(a:α):∀ l:List α,l.Pairwise (fun x y=>le x y=true)->(AcM le a l).Pairwise fun x y=>le x y=true
 | [],_=>QkA _ _
 | b::l,h=>by
  unfold AcM
  split
  ·rename_i d;refine .cons (fun x hx=>?_) h
   rcases Qzy.1 hx with rfl | hx
   ·exact d
   ·exact htr _ _ _ d ((Qz0.1 h).1 x hx)
  ·rename_i d;have h2:le b a=true:=by rcases hto a b with h | h;exact absurd h d;exact h
   refine .cons (fun x hx=>?_) (Ud htr hto a l (Qz0.1 h).2)
   rcases Qzy.1 ((TF a l).mem_iff.1 hx) with rfl | hx
   ·exact h2
   ·exact(Qz0.1 h).1 x hx
theorem Sg(htr:∀ a b c,le a b=true->le b c=true->le a c=true)(hto:∀ a b,le a b=true\/le b a=true):∀ l:List α,(isB le l).Pairwise fun x y=>le x y=true
 | []=>.nil
 | a::l=>Ud htr hto a _ (Sg htr hto l)
theorem Xw(has:∀ a b,le a b=true->le b a=true->a=b):∀ {l m:List α},l.Perm m->l.Pairwise (fun x y=>le x y=true)->m.Pairwise (fun x y=>le x y=true)->l=m
 | [],m,hp,_,_=>hp.nil_eq
 | a::l,m,hp,hl,hm=>by
  cases m with
  | nil=>exact absurd hp.symm.nil_eq Qqd
  | cons b m=>
   obtain⟨d,e⟩:=Qz0.1 hl;obtain⟨f,g⟩:=Qz0.1 hm
   have hab:a=b:=by
    rcases Qzy.1 (hp.mem_iff.1 (.head _)) with c | c
    ·exact c
    ·rcases Qzy.1 (hp.mem_iff.2 (.head _)) with h2 | h2
     ·exact h2.symm
     ·exact has a b (d b h2) (f a c)
   subst hab;rw [Xw has hp.cons_inv e g]
theorem Yt(htr:∀ a b c,le a b=true->le b c=true->le a c=true)(hto:∀ a b,le a b=true\/le b a=true)(has:∀ a b,le a b=true->le b a=true->a=b)(l:List α):isB le l=l.mergeSort le:=
 Xw has ((Z8 l).trans (Qkz l _).symm) (Sg htr hto l) (Qk4 htr (fun a b=>by simpa using hto a b) l)
end
def isS(l:List (List UInt8)):List (List UInt8):=isB (fun x y=>decide (x<=y)) l
def isI(l:List Int):List Int:=isB (fun x y=>decide (x<=y)) l
def isL(l:List Lf):List Lf:=isB (fun x y=>!(Go.Proofs.ltOf Ni) y x) l
theorem VW(l:List Int):isI l=Go.E.M9 l:=Yt (fun a b c d h2=>by simp only [decide_eq_true_eq] at *;omega) (fun a b=>by simp only [decide_eq_true_eq];omega) (fun a b d h2=>by simp only [decide_eq_true_eq] at *;omega) l
theorem VX(l:List (List UInt8)):isS l=Go.E.Aj8 l:=Yt (fun a b c d h2=>by simp only [decide_eq_true_eq] at *;exact List.le_trans d h2) (fun a b=>by simp only [decide_eq_true_eq];exact List.le_total a b) (fun a b d h2=>by simp only [decide_eq_true_eq] at *;exact List.le_antisymm d h2) l
theorem Afe(l:List Lf):isL l=MA l:=by
 have hlt:∀ a b,(!(Go.Proofs.ltOf Ni) b a)=true↔¬ Ni b a<0:=fun a b=>by simp [Go.Proofs.ltOf]
 refine Yt (fun a b c e h2=>?_) (fun a b=>?_) (fun a b e h2=>?_) l
 ·rw [hlt] at *;intro h3;have s1:=Ou.swap a b
  rcases Qke (Ni a b) 0 with d | d | d
  ·exact h2 (Ou.trans c a b h3 d)
  ·rw [Ou.zero a b d] at h3;exact h2 h3
  ·omega
 ·rw [hlt,hlt];have s1:=Ou.swap a b;omega
 ·exact Ou.parts a b (by simpa using h2) (by simpa using e)
end Go.L
namespace Go.Proofs.YtekmbcbgknmhiaaGreatDoor
open Go Go.E Go.L
def VY(l:List (Lf×List Int)):Option (List Lf):=Go.L.AN (Go.E.HK 48 l.length) (some (isL (l.map Qq6)))
theorem Z9(l:List (Lf×List Int)):VY l=Rm l:=by unfold VY Rm;rw [Afe]
noncomputable instance (l:List (Lf×List Int)):Mi (Rm l):=⟨VY l,by rw [Z9];exact apR _⟩
end Go.Proofs.YtekmbcbgknmhiaaGreatDoor
end
noncomputable section
namespace Go.L
section
variable {α:Type} {le:α->α->Prop}
theorem Po[Inhabited α][DecidableEq α](hre:∀ a,le a a)(htr:∀ a b c,le a b->le b c->le a c)(has:∀ a b,le a b->le b a->a=b)(d:Array α)(hs:∀ i j,i<j->j<d.size->le d[i]! d[j]!):∀ m,m<=d.size->
  (Lib.compactUpTo d m).Pairwise (fun a b=>le a b/\a≠b)/\(∀ x,x∈Lib.compactUpTo d m↔∃ j,j<m/\x=d[j]!)
 | 0,_=>⟨by simp [Lib.compactUpTo],fun x=>by simp [Lib.compactUpTo]⟩
 | m+1,hm=>by
  obtain⟨f,h2⟩:=Po hre htr has d hs m U;rw [Lib.compactUpTo_succ]
  by_cases hk:Lib.keeps d m=true
  ·rw [if_pos hk];refine⟨Qja.2 ⟨f,QkA _ _,fun a ha b hb=>?_⟩,fun x=>?_⟩
   ·rw [Qzf] at hb;subst hb;obtain⟨j,hj,rfl⟩:=(h2 a).1 ha;refine⟨hs j m hj U,fun e=>?_⟩;unfold Lib.keeps at hk;rw [decide_eq_true_eq] at hk
    rcases hk with hk | hk
    ·omega
    ·refine hk (has _ _ ?_ ?_)
     ·by_cases hjm:j=m - 1
      ·rw [<- e,hjm];exact hre _
      ·rw [<- e];exact hs j (m - 1) U U
     ·exact hs (m - 1) m U U
   ·rw [QzQ,h2,Qzf]
    constructor
    ·rintro(⟨j,hj,rfl⟩ | rfl)
     ·exact⟨j,by omega,Z⟩
     ·exact⟨m,by omega,Z⟩
    ·rintro⟨j,hj,rfl⟩
     by_cases hjm:j=m
     ·subst hjm;exact .inr Z
     ·exact .inl ⟨j,by omega,Z⟩
  ·have hk' : ¬ (m=0\/d[m]!≠d[m - 1]!):=by
    unfold Lib.keeps at hk
    simpa using hk
   rw [if_neg hk,QzX];refine⟨f,fun x=>(h2 x).trans ?_⟩
   constructor
   ·rintro⟨j,hj,rfl⟩;exact⟨j,by omega,Z⟩
   ·rintro⟨j,hj,rfl⟩
    by_cases hjm:j=m
    ·subst hjm;have e:d[j]! = d[j - 1]!:=Decidable.not_not.1 fun h=>hk' (.inr h);have g:j≠0:=fun h=>hk' (.inl h);exact⟨j - 1,by omega,e⟩
    ·exact⟨j,by omega,Z⟩
theorem Yu[Inhabited α][DecidableEq α](hre:∀ a,le a a)(htr:∀ a b c,le a b->le b c->le a c)(has:∀ a b,le a b->le b a->a=b){l:List α}(hs:l.Pairwise le):(Lib.compact l).Pairwise (fun a b=>le a b/\a≠b)/\∀ x,x∈Lib.compact l↔x∈l:=by
 have hget:∀ i,i<l.length->l.toArray[i]! = l.getD i Qq2:=fun i hi=>by simp [hi]
 have:=Po hre htr has l.toArray (fun i j hij hj=>by
  have hj':j<l.length:=by simpa using hj
  have hi':i<l.length:=by omega
  have:=List.pairwise_iff_getElem.1 hs i j hi' hj' hij
  simpa [hi',hj'] using this) l.length Qqd
 refine⟨this.1,fun x=>(this.2 x).trans ?_⟩
 constructor
 ·rintro⟨j,hj,rfl⟩;simp [hj]
 ·intro hx;obtain⟨j,hj,rfl⟩:=List.getElem_of_mem hx;exact⟨j,hj,by simp [hj]⟩
end
theorem TG(l:List Int):(Go.E.M9 l).Perm l:=Qkz l _
theorem ZA(l:List Int):(Go.E.M9 l).Pairwise (fun x y=>x<=y):=by
 have:=Qk4 (le:=fun x y:Int=>decide (x<=y)) (fun a b c d h2=>by simp only [decide_eq_true_eq] at *;omega) (fun a b=>by simpa using Int.le_total a b) l;exact this.imp fun h=>by simpa using h
def QR(l:List Int):List Int:=Lib.compact (Go.E.M9 l)
theorem Ru(l:List Int):(QR l).Pairwise (fun a b=>a<=b/\a≠b)/\∀ x,x∈QR l↔x∈l:=by
 have:=Yu (le:=fun a b:Int=>a<=b) Int.le_refl (fun _ _ _=>Int.le_trans) (fun _ _=>Int.le_antisymm) (ZA l);exact⟨this.1,fun x=>(this.2 x).trans (TG l).mem_iff⟩
end Go.L
end
noncomputable section
namespace Go.L
section
variable {κ β:Type} [DecidableEq κ]
theorem TH(d:β)(k k':κ)(y:β):∀ M:List (κ×β),BV d k' (Ge k y M)=if k'=k then y else BV d k' M
 | []=>by simp only [Ge,BV]
 | (a,z)::M=>by
  unfold Ge
  by_cases h:k=a
  ·subst h;rw [if_pos Z];unfold BV
   by_cases h2:k'=k
   ·rw [if_pos h2,if_pos h2]
   ·rw [if_neg h2,if_neg h2];rw [if_neg h2]
  ·rw [if_neg h];unfold BV;rw [TH d k k' y M]
   by_cases h2:k'=a
   ·rw [if_pos h2,if_neg (fun e=>h (e.symm.trans h2)),if_pos h2]
   ·rw [if_neg h2,if_neg h2]
theorem SR{k:κ}(y:β):∀ {M:List (κ×β)},k∈M.map Qq6->(Ge k y M).map Qq6=M.map Qq6
 | [],h=>by cases h
 | (a,z)::M,h=>by
  unfold Ge
  by_cases hk:k=a
  ·subst hk;rw [if_pos Z];rfl
  ·rw [if_neg hk];simp only [Qzd,Qzy] at h ⊢;rw [SR y (h.resolve_left hk)]
theorem SS{k:κ}(y:β):∀ {M:List (κ×β)},k∉M.map Qq6->Ge k y M=M++[(k,y)]
 | [],_=>rfl
 | (a,z)::M,h=>by
  unfold Ge;simp only [Qzd,Qzy,not_or] at h;rw [if_neg h.1,SS y h.2]
  rfl
end
def PO(k:Lf)(i:Int)(M:List (Lf×List Int)):List (Lf×List Int):=Ge k (BV [] k M++[i]) M
end Go.L
namespace Go.Proofs.YtekmbcbgknmhiaaGreatDoor
open Go Go.L
structure GI (n:Int) (es:List En):Prop where
 n0:0<=n
 n64:n<=64
 ev:∀ e∈es,EV n e
 sz:∀ e∈es,EnS e
 len:es.length<=1000000
 inc:es.Pairwise (fun a b=>Ni a.1 b.1<0)
def Pp(M:List (Lf×List Int)):List En:=(MA (M.map Qq6)).map fun k=>(k,QR (BV [] k M))
def MS(M:List (Lf×List Int)):Prop:=M.length<=1000000/\∀ k∈M.map Qq6,k.1.length<=2000000/\Bz k.2.1/\Bz k.2.2.1/\k.2.2.2.length<=2000000/\(BV [] k M).length<=1000000/\∀ z∈BV [] k M,Bz z
theorem Oh(l:List Lf):(MA l).Perm l:=Qkz l _
theorem ZB(l:List Int):(QR l).length<=l.length:=Qz2 (Go.E.V1 _) (Nat.le_of_eq (TG l).length_eq)
theorem Aff{M:List (Lf×List Int)}(h:MS M):∀ e∈Pp M,EnS e:=by
 intro e he;obtain⟨k,hk,rfl⟩:=Qz8.1 he;obtain⟨a,h2,h3,b,c,d⟩:=h.2 k ((Oh _).mem_iff.1 hk);exact⟨a,h2,h3,b,fun z hz=>d z (((Ru _).2 z).1 hz),Qz2 (ZB _) c⟩
theorem ZC(M:List (Lf×List Int)):(Pp M).length=M.length:=by unfold Pp;rw [Qzk,QE,Qzk]
def AaG(n:Int)(M:List (Lf×List Int)):(Int×List En)×(Int×Int):=if 16384<(AbL n (Pp M)).length then((0,[]),(14,-1)) else((n,Pp M),(0,0))
theorem Afg{n:Int}{M:List (Lf×List Int)}(hn:Bz n)(h:MS M):Hv n M=some (AaG n M):=by
 unfold Hv Rm;have hM:=h.1;rw [Ac (by unfold Go.E.HK;omega),Qq5];unfold Ld
 have a:Hh n (Pp M)=some (AaG n M):=by
  unfold Hh DJ AaG;rw [Afd hn (by rw [ZC];exact hM) (Aff h),Qq5]
  by_cases hc:16384<(AbL n (Pp M)).length
  ·rw [if_pos U,if_pos hc];rfl
  ·rw [if_neg U,if_neg hc]
 have hkl:(MA (M.map Qq6)).length=M.length:=by rw [QE,Qzk]
 refine DM (fun i=>(((MA (M.map Qq6)).take i).map (fun k=>(k,QR (BV [] k M))),((i:Nat):Int))) (MA (M.map Qq6)).length (fun i hi=>?_) ?_ 0
 ·obtain⟨c,h2,h3,d,e,f⟩:=h.2 _ ((Oh _).mem_iff.1 (Ew hi))
  have ht:((MA (M.map Qq6)).take (i+1)).map (fun k=>(k,QR (BV [] k M)))=((MA (M.map Qq6)).take i).map (fun k=>(k,QR (BV [] k M)))++[((MA (M.map Qq6)).getD i Qq2,QR (BV [] ((MA (M.map Qq6)).getD i Qq2) M))]:=by
   rw [QxX,Qzw hi,Qjb,Qxf];simp [Qzq,Qzw hi]
  rw [ht];unfold Gy Fc;dsimp only;rw [if_pos U,Ac U,Qq8];generalize (MA (M.map Qq6)).getD i Qq2=k at *;have b:((k.1,k.2.1,k.2.2.1,k.2.2.2):Lf)=k:=Z;simp only [b];rw [Ac (by unfold Go.E.HK;simp only [Qze];show(0+(BV [] k M).length) * 8<=_/\_;omega),Qq5]
  show Go.L.AN (([]++BV [] k M).length<_) _=_
  rw [Qxz,Ac U,Ac (by rw [(TG _).length_eq];omega),Ac (by unfold Go.E.HK;simp only [Qzk,QzK,Qzj,Qze];omega),Ac (by unfold Bz;omega)]
  rfl
 ·unfold Gy;dsimp only;rw [if_neg U,Qx4];exact congrArg (Qq7 Sum.inr) a
def Bd(N:Nat)(M:List (Lf×List Int)):Prop:=∀ k,(BV [] k M).length<=N
end Go.Proofs.YtekmbcbgknmhiaaGreatDoor
end
noncomputable section
namespace Go.L
def jn:List (List UInt8)->List UInt8
 | []=>[]
 | x::l=>if l=[] then x else x++47::jn l
theorem VZ:∀ {l:List (List UInt8)},l≠[]->(jn l).length+1=TY l
 | x::l,_=>by
  unfold jn TY
  by_cases h:l=[]
  ·subst h;simp [TY]
  ·have:=VZ h;rw [if_neg h,Qzu,Qzj];omega
theorem Xx:∀ (x cur s:List UInt8),47∉x->RL cur (x++47::s)=(cur++x)::RL [] s
 | [],cur,s,_=>by simp [RL]
 | c::x,cur,s,h=>by
  have hc:c≠47:=fun e=>h (by rw [e];exact .head _);simp only [QxZ,RL,if_neg hc];rw [Xx x (cur++[c]) s (fun hh=>h (.tail _ hh))];simp
theorem ZD:∀ (x cur:List UInt8),47∉x->RL cur x=[cur++x]
 | [],cur,_=>by simp [RL]
 | c::x,cur,h=>by
  have hc:c≠47:=fun e=>h (by rw [e];exact .head _);simp only [RL,if_neg hc];rw [ZD x (cur++[c]) (fun hh=>h (.tail _ hh))];simp
theorem Afh:∀ {l:List (List UInt8)},l≠[]->(∀ x∈l,47∉x)->RL [] (jn l)=l
 | x::l,_,h=>by
  unfold jn
  by_cases hl:l=[]
  ·subst hl;rw [if_pos Z,ZD x [] (h x (.head _))];simp
  ·rw [if_neg hl,Xx x [] _ (h x (.head _)),Afh hl (fun y hy=>h y (.tail _ hy))];simp
theorem Ajo{l:List (List UInt8)}(hne:∀ x∈l,x≠[])(h:∀ x∈l,47∉x):sl (jn l)=l:=by
 unfold sl
 cases l with
 | nil=>simp [jn]
 | cons x l=>
  have:jn (x::l)≠[]:=by
   unfold jn;have:=hne x (.head _)
   split
   ·exact this
   ·simp
  rw [if_neg this,Afh Qqd h]
def stp(x:List UInt8):Bool:=SI x||decide (x=[35])
theorem AaH{x:List UInt8}(h:stp x=true):x≠[]/\47∉x/\x≠[42]/\x≠[42,42]:=by
 unfold stp at h;rw [Qxq,decide_eq_true_eq] at h
 rcases h with h | rfl
 ·unfold SI at h;rw [Qzb,decide_eq_true_eq] at h;obtain⟨a,h2⟩:=h;have hall:=List.all_eq_true.1 h2;refine⟨fun e=>by subst e;simp at a,fun hh=>?_,fun e=>by subst e;simp at a,fun e=>by subst e;simp at a⟩;have:=hall 47 hh
  revert this;decide
 ·decide
theorem Ajp{w:Bool}{l:List (List UInt8)}:∀ {a:Int},(∀ x∈l,(stp x||(w&&(decide (x=[42])||decide (x=[42,42]))))=true)->wr w a l = -1:=by
 induction l with
 | nil=>intro a _;rfl
 | cons y l ih=>
  intro a h;unfold wr;have:=h y (.head _);unfold stp at this;rw [if_pos this];exact ih (fun x hx=>h x (.tail _ hx))
end Go.L
end
noncomputable section
namespace Go.L
theorem Afi{α:Type}[Inhabited α](f:α->Nat){l:List α}{i:Nat}(h:i<l.length):((l.drop i).map f).sum=f (l.getD i Qq2)+((l.drop (i+1)).map f).sum:=by rw [drop_cons h];simp
end Go.L
namespace Go.Proofs.YtekmbcbgknmhiaaGreatDoor
open Go Go.L
theorem ZE{d:Nat}{v:Pv}{a2:Int}{self:Pv->Int->Int->Option (Int×(Int×Int))}(hlen:v.f.2.2.2.2.length<=1000)(ha:Bz (a2+1))
  (hs:∀ p∈v.f.2.2.2.2,∀ m:Int,0<=m->∃ r,self p m (a2+1)=some r/\((r.2=(0,0)/\Vd d p/\r.1=m+(nodes d p:Nat)/\r.1<=600)\/r.2.1≠0)) :
  ∀ (k i:Nat) (m:Int),i+k=v.f.2.2.2.2.length->0<=m->m<=600->∃ r,Go.L.run (CK v a2 self) (m,(i:Int))=some r/\((r.2=(0,0)/\(∀ p∈v.f.2.2.2.2.drop i,Vd d p)/\r.1=m+(((v.f.2.2.2.2.drop i).map (nodes d)).sum:Nat)/\r.1<=600)\/r.2.1≠0)
 | 0,i,m,hi,a,b=>by
  refine⟨(m,0,0),AP (m:=some (m,0,0)) ?_,.inl ⟨Z,?_⟩⟩
  ·unfold CK Hl;dsimp only;rw [if_neg U]
  ·rw [List.drop_eq_nil_of_le U];exact⟨by simp,by simp,b⟩
 | k+1,i,m,hi,a,b=>by
  have hil:i<v.f.2.2.2.2.length:=by omega
  obtain⟨r,c,h2⟩:=hs _ (Ew hil) m a
  rcases h2 with ⟨hr,e,g,h⟩ | hr
  ·have hb:CK v a2 self (m,(i:Int))=some (.inl (r.1,((i+1:Nat):Int))):=by
    unfold CK;dsimp only;rw [if_pos U,Ac U,Ac ha,Qq8,c,Qq5,if_pos (by rw [hr];exact⟨Z,Z⟩),Ac (by unfold Bz;omega)]
    rfl
   obtain⟨q,j,l⟩:=ZE hlen ha hs k (i+1) r.1 U U h;refine⟨q,by rw [Be hb,j],?_⟩
   rcases l with ⟨hq,n,o,s⟩ | hq
   rotate_left
   ·exact .inr hq
   rw [drop_cons hil];refine .inl ⟨hq,fun p hp=>?_,?_,s⟩
   ·rcases Qzy.1 hp with rfl | hp
    ·exact e
    ·exact n p hp
   ·rw [Qzd,List.sum_cons,o,g];omega
  ·refine⟨(0,r.2.1,r.2.2),AP (m:=some (0,r.2.1,r.2.2)) ?_,.inr hr⟩;unfold CK;dsimp only;rw [if_pos U,Ac U,Ac ha,Qq8,c,Qq5,if_neg (fun hh=>hr hh.1)]
theorem Afj{B:Nat}(hB:B<=100000000000):∀ (d n:Nat) (v:Pv) (m:Int),d<n->Sm B d v->d<=10->0<=m->∃ r,Fo n v m (11 - (d:Int))=some r/\((r.2=(0,0)/\Vd d v/\r.1=m+(nodes d v:Nat)/\r.1<=600)\/r.2.1≠0)
 | _,0,_,_,h,_,_,_=>absurd h U
 | 0,n+1,v,m,_,_,_,_=>by
  refine⟨(0,2,m),?_,.inr Qqd⟩
  show Eo (Fo n) v m _=_
  unfold Eo;rw [if_pos (by right;omega)]
  rfl
 | d+1,n+1,v,m,hn,hs,hd,hm=>by
  obtain⟨s1,l,o,s,t,u,e⟩:=hs
  show ∃ r,Eo (Fo n) v m _=some r/\_
  unfold Eo
  by_cases g:(600:Int)<=m
  ·rw [if_pos (.inl g)];exact⟨(0,2,m),Z,.inr Qqd⟩
  ·rw [if_neg U];obtain⟨c,h2,h3⟩:=Yr v U;rw [h2,Qq5]
   by_cases hc:c=0
   ·rw [if_pos hc,Ac (by unfold Bz;omega)];have hok:=h3 hc
    obtain⟨r,i,j⟩:=ZE (d:=d) (v:=v) (a2:=11 - ((d+1:Nat):Int)) (self:=Fo n) (by have:=hok.many;omega) (by unfold Bz;omega)
     (fun p hp q hq=>by
      have:=Afj hB d n p q U (e p hp) U hq
      rwa [show(11:Int) - ((d+1:Nat):Int)+1=11 - (d:Int) by omega]) v.f.2.2.2.2.length 0 (m+1) U U U
    refine⟨r,i,?_⟩
    rcases j with ⟨hr,a,b,k⟩ | hr
    rotate_left
    ·exact .inr hr
    rw [QxD] at a b;refine .inl ⟨hr,⟨hok,a⟩,?_,k⟩;rw [b];unfold nodes;omega
   ·rw [if_neg hc];exact⟨(0,c,m),Z,.inr hc⟩
theorem ZF{B:Nat}(hB:B<=100000000000){b:List UInt8}(h:b.length<=B):HT b=some (Pm (zz (b.length:Int))++b):=by
 unfold HT;have:=GV (zz (b.length:Int));rw [Jf (by unfold Bz;omega),Qq5,Ac (by unfold Go.E.HK;omega)]
theorem Wa{B d:Nat}(hB:B<=100000000000){v:Pv}{self:Pv->Option (List UInt8)}(hlen:v.f.2.2.2.2.length<=600)(hsame:v.f.1=4->v.f.2.2.2.1.length=v.f.2.2.2.2.length)(hnm:∀ x∈v.f.2.2.2.1,x.length<=32)
  (hnod:((v.f.2.2.2.2).map (nodes d)).sum<=600)
  (hs:∀ p∈v.f.2.2.2.2,∃ b,self p=some b/\b.length+42<=nodes d p * (B+100)) :
  ∀ (k i:Nat) (L:List UInt8) (C:Nat),i+k=v.f.2.2.2.2.length->C<=700->L.length+42+(((v.f.2.2.2.2.drop i).map (nodes d)).sum) * (B+100)<=C * (B+100)->∃ b,Go.L.run (Cd v self) (L,(i:Int))=some b/\b.length+42<=C * (B+100)
 | 0,i,L,C,hi,hC,hL=>by
  refine⟨L,AP (m:=some L) ?_,by omega⟩;unfold Cd GR;dsimp only;rw [if_neg U]
 | k+1,i,L,C,hi,hC,hL=>by
  have hil:i<v.f.2.2.2.2.length:=by omega
  obtain⟨b,h,h2⟩:=hs _ (Ew hil);rw [Afi _ hil,Qx6] at hL;have hCB:C * (B+100)<=700 * (100000000000+100):=Nat.mul_le_mul hC U
  have a:∀ M:List UInt8,M.length+b.length+42+((v.f.2.2.2.2.drop (i+1)).map (nodes d)).sum * (B+100)<=C * (B+100)->Ec v (i:Int) self M=some (.inl (M++b,((i+1:Nat):Int))):=by
   intro M hM;unfold Ec;rw [Qq8,h,Qq5,Ac (by unfold Go.E.HK;omega),Ac (by unfold Bz;omega)]
   rfl
  by_cases c:v.f.1=4
  ·have hin:i<v.f.2.2.2.1.length:=by rw [hsame c];exact hil
   have hx:=hnm _ (Ew hin);have hv:=GV (zz ((v.f.2.2.2.1.getD i Qq2).length:Int))
   have hb:Cd v self (L,(i:Int))=some (.inl ((L++(Pm (zz ((v.f.2.2.2.1.getD i Qq2).length:Int))++v.f.2.2.2.1.getD i Qq2))++b,((i+1:Nat):Int))):=by
    unfold Cd;dsimp only;rw [if_pos U,Ac U,if_pos c,Ac U,Qq8,Ac U,ZF (B:=32) Qqc hx,Qq5,Ac (by unfold Go.E.HK;simp only [Qzu];omega)];exact a _ (by simp only [Qzu];omega)
   obtain⟨q,e,g⟩:=Wa hB hlen hsame hnm hnod hs k (i+1) _ C U hC (show((L++(Pm (zz ((v.f.2.2.2.1.getD i Qq2).length:Int))++v.f.2.2.2.1.getD i Qq2))++b).length+42+_<=_ by simp only [Qzu];omega);exact⟨q,by rw [Be hb,e],g⟩
  ·have hb:Cd v self (L,(i:Int))=some (.inl (L++b,((i+1:Nat):Int))):=by
    unfold Cd;dsimp only;rw [if_pos U,Ac U,if_neg c];exact a _ U
   obtain⟨q,e,g⟩:=Wa hB hlen hsame hnm hnod hs k (i+1) _ C U hC (show(L++b).length+42+_<=_ by simp only [Qzu];omega);exact⟨q,by rw [Be hb,e],g⟩
theorem AgV{x:List UInt8}(h:SI x=true):x.length<=32:=by
 unfold SI at h;rw [Qzb,decide_eq_true_eq] at h;omega
theorem AcN{d:Nat}{l:List Pv}{p:Pv}(h:p∈l):nodes d p<=(l.map (nodes d)).sum:=by
 induction l with
 | nil=>cases h
 | cons a l ih=>
  rw [Qzd,List.sum_cons]
  rcases Qzy.1 h with rfl | h
  ·omega
  ·have:=ih h;omega
theorem Afk{B:Nat}(hB:B<=100000000000):∀ (d n:Nat) (v:Pv),d<=n->Sm B d v->Vd d v->nodes d v<=600->∃ b,Fw n v=some b/\b.length+42<=nodes d v * (B+100)
 | 0,_,_,_,_,h,_=>h.elim
 | d+1,0,_,h,_,_,_=>absurd h U
 | d+1,n+1,v,hn,hs,hv,hnod=>by
  obtain⟨s1,k,l,m,e,g,i⟩:=hs;obtain⟨hok,hvp⟩:=hv;unfold nodes at hnod
  show ∃ b,Fv (Fw n) v=some b/\_
  unfold Fv;have o:=GV (zz v.f.1);have q:=GV (zz v.f.2.1);have r:=GV (zz (v.f.2.2.1.length:Int));have s:=GV (zz (v.f.2.2.2.2.length:Int));have hN:1 * (B+100)<=nodes (d+1) v * (B+100):=Nat.mul_le_mul_right _ (by unfold nodes;omega);rw [Jf e,Qq5]
  by_cases a:v.f.1=1
  ·rw [if_pos a,Jf g,Qq5,Ac (by unfold Go.E.HK;omega)];exact⟨_,Z,by simp only [Qzu];omega⟩
  ·rw [if_neg a]
   by_cases c:v.f.1=2
   ·rw [if_pos c,ZF hB s1,Qq5,Ac (by unfold Go.E.HK;simp only [Qzu];omega)];exact⟨_,Z,by simp only [Qzu];omega⟩
   ·have hmany:=hok.many;rw [if_neg c,Jf (by unfold Bz;omega),Qq5,Ac (by unfold Go.E.HK;omega)]
    obtain⟨b,j,h2⟩:=Wa (d:=d) hB (v:=v) (self:=Fw n) hok.many hok.same (fun x hx=>AgV (hok.SI x hx)) U
     (fun p hp=>Afk hB d n p U (i p hp) (hvp p hp) (by have:=AcN (d:=d) hp;omega)) v.f.2.2.2.2.length 0 (Pm (zz v.f.1)++Pm (zz (v.f.2.2.2.2.length:Int))) ((v.f.2.2.2.2.map (nodes d)).sum+1) U U
     (by rw [QxD,Qx6];simp only [Qzu];omega)
    refine⟨b,j,?_⟩;unfold nodes
    rwa [Nat.add_comm 1]
theorem Ue{B:Nat}(hB:B<=100000000000){v:Pv}(hs:Sm B 10 v):∃ f,EI v=some f/\((f=(0,0)/\Vd 10 v/\nodes 10 v<=600)\/f.1≠0):=by
 obtain⟨r,d,h2⟩:=Afj hB 10 1000 v 0 U hs U (Int.le_refl _);have h1':Nh v 0 1=some r:=d;unfold EI LX;rw [h1',Qq5]
 rcases h2 with ⟨hr,a,e,g⟩ | hr
 ·rw [if_pos (by rw [hr];exact⟨Z,Z⟩)];obtain⟨b,h3,i⟩:=Afk hB 10 1000 v U hs a U;have h3':LW v=some b:=h3;rw [h3',Qq5]
  by_cases c:(4000:Int)<(b.length:Int)
  ·rw [if_pos c];exact⟨(14,-1),Z,.inr Qqd⟩
  ·rw [if_neg c];exact⟨(0,0),Z,.inl ⟨Z,a,by omega⟩⟩
 ·rw [if_neg (fun h=>hr h.1)];exact⟨r.2,Z,.inr hr⟩
end Go.Proofs.YtekmbcbgknmhiaaGreatDoor
end
noncomputable section
namespace Go.L
def QS{σ α:Type}(step:σ->α->Option σ):σ->List α->Option σ
 | s,[]=>some s
 | s,x::l=>(step s x).bind fun s'=>QS step s' l
theorem SU{σ α:Type}{step:σ->α->Option σ}:∀ (l m:List α) (s:σ),QS step s (l++m)=(QS step s l).bind fun s'=>QS step s' m
 | [],_,_=>rfl
 | x::l,m,s=>by
  simp only [QxZ,QS]
  cases step s x with
  | none=>rfl
  | some s'=>exact SU l m s'
def cst(v:Pv)(i:Nat):List UInt8:=if v.f.1=4 then v.f.2.2.2.1.getD i Qq2 else[35]
def lvs:Nat->Pv->List (List UInt8)->List Lf
 | 0,_,_=>[]
 | d+1,v,p=>(jn p,v.f.1,v.f.2.1,v.f.2.2.1)::(Qx8 0 v.f.2.2.2.2.length).flatMap fun i=>lvs d (v.f.2.2.2.2.getD i Qq2) (p++[cst v i])
theorem Afl{α:Type}[Inhabited α](l:List α):(Qx8 0 l.length).map (fun i=>l.getD i Qq2)=l:=by
 rw [<- List.range_eq_range'];apply List.ext_getElem
 ·simp
 ·intro i a h2;simp [Qzq,h2]
theorem Yv:∀ (d:Nat) (v:Pv) (p:List (List UInt8)),(lvs d v p).length=nodes d v
 | 0,_,_=>rfl
 | d+1,v,p=>by
  unfold lvs nodes;rw [Qzj,List.length_flatMap,Nat.add_comm]
  congr 2
  conv=>rhs;rw [<- Afl v.f.2.2.2.2]
  rw [List.map_map];apply List.map_congr_left;intro i _;exact Yv d _ _
theorem AgW:∀ p:List (List UInt8),Lib.join p [47]=jn p
 | []=>rfl
 | x::l=>by
  have key:∀ (l:List (List UInt8)) (x:List UInt8),jn (x::l)=x++Lib.joinTail [47] l:=by
   intro l
   induction l with
   | nil=>intro x;simp [jn,Lib.joinTail]
   | cons y l ih=>
    intro x;unfold jn;rw [if_neg Qqd,ih y];simp [Lib.joinTail]
  rw [Lib.join_cons,key]
def POk(p:List (List UInt8)):Prop:=∀ x∈p,stp x=true
theorem AgX{x:List UInt8}(h:stp x=true):x.length<=32:=by
 unfold stp at h;rw [Qxq,decide_eq_true_eq] at h
 rcases h with h | rfl
 ·unfold SI at h;rw [Qzb,decide_eq_true_eq] at h;omega
 ·decide
theorem POk.TY{p:List (List UInt8)}(h:POk p):TY p<=33 * p.length:=by
 induction p with
 | nil=>simp [Go.L.TY]
 | cons x p ih=>
  have:=AgX (h x (.head _));have:=ih fun y hy=>h y (.tail _ hy);unfold Go.L.TY;simp only [Qzj];omega
theorem POk.VZ{p:List (List UInt8)}(h:POk p):(jn p).length<=33 * p.length:=by
 by_cases a:p=[]
 ·subst a;simp [jn]
 ·have:=Go.L.VZ a;have:=h.TY;omega
theorem POk.snoc{p:List (List UInt8)}(h:POk p){x:List UInt8}(hx:stp x=true):POk (p++[x]):=fun y hy=>by
 rcases QzQ.1 hy with hy | hy
 ·exact h y hy
 ·rw [Qzf] at hy;subst hy;exact hx
theorem Afm{v:Pv}(h:TD v){i:Nat}(hi:i<v.f.2.2.2.2.length):stp (cst v i)=true:=by
 unfold cst
 by_cases a:v.f.1=4
 ·rw [if_pos a];have:=h.SI _ (Ew (by rw [h.same a];exact hi));unfold stp;rw [this];rfl
 ·rw [if_neg a];decide
theorem POk.nil{p:List (List UInt8)}(h:POk p):jn p=[]↔p=[]:=by
 constructor
 ·intro hj
  cases p with
  | nil=>rfl
  | cons x p=>
   have:=(AaH (h x (.head _))).1;unfold jn at hj
   split at hj
   ·exact absurd hj this
   ·simp at hj
 ·rintro rfl;rfl
end Go.L
namespace Go.Proofs.YtekmbcbgknmhiaaGreatDoor
open Go Go.L
section
variable {σ:Type} {step:σ->Lf->Option σ}
theorem AbN{v:Pv}{p:List (List UInt8)}{self:Pv->List (List UInt8)->σ->Option σ}{d:Nat}(hv:TD v)(hp:p.length<=20)(hs:∀ i s,i<v.f.2.2.2.2.length->self (v.f.2.2.2.2.getD i Qq2) (p++[cst v i]) s=QS step s (lvs d (v.f.2.2.2.2.getD i Qq2) (p++[cst v i]))):
  ∀ (k i:Nat) (s:σ),i+k=v.f.2.2.2.2.length->Go.L.run (CL v p self) ((i:Int),s)=QS step s ((Qx8 i k).flatMap fun i=>lvs d (v.f.2.2.2.2.getD i Qq2) (p++[cst v i]))
 | 0,i,s,hi=>by
  refine AP (m:=some s) ?_;unfold CL;dsimp only;rw [if_neg U]
 | k+1,i,s,hi=>by
  have hil:i<v.f.2.2.2.2.length:=by omega
  have hmany:=hv.many;rw [List.range'_succ,Qz6,SU,<- hs i s hil]
  have hk:∀ x,x=cst v i->DF v p (i:Int) self x s=(self (v.f.2.2.2.2.getD i Qq2) (p++[cst v i]) s).bind fun s'=>some (.inl (((i+1:Nat):Int),s')):=by
   rintro x rfl;unfold DF Cv;rw [Ac (by unfold Go.E.HK;simp;omega),Qq5,Ac (by unfold Go.E.HK;simp;omega),Qq8,Qxz];refine congrArg (Qq4 _) (funext fun x=>?_);rw [Ac (by unfold Bz;omega)]
   rfl
  have hb:CL v p self ((i:Int),s)=(self (v.f.2.2.2.2.getD i Qq2) (p++[cst v i]) s).bind fun s'=>some (.inl (((i+1:Nat):Int),s')):=by
   unfold CL;dsimp only;rw [if_pos U,Ac U]
   by_cases a:v.f.1=4
   ·have:=hv.same a;rw [if_pos a,Ac U,Qq8];exact hk _ (by unfold cst;rw [if_pos a])
   ·rw [if_neg a];exact hk _ (by unfold cst;rw [if_neg a])
  cases hc:self (v.f.2.2.2.2.getD i Qq2) (p++[cst v i]) s with
  | none=>
   rw [hc] at hb;exact AP (m:=none) hb
  | some s'=>
   rw [hc] at hb;rw [Be hb];exact AbN hv hp hs k (i+1) s' U
theorem Ajq:∀ (d n:Nat) (v:Pv) (p:List (List UInt8)) (s:σ),d<=n->Vd d v->POk p->p.length+d<=20->Ga step n v p s=QS step s (lvs d v p)
 | 0,_,_,_,_,_,h,_,_=>h.elim
 | d+1,0,_,_,_,h,_,_,_=>absurd h U
 | d+1,n+1,v,p,s,hn,hv,hp,hl=>by
  obtain⟨hok,hvp⟩:=hv
  show EW step (Ga step n) v p s=_
  unfold EW S5 lvs;have:=hp.VZ;rw [AgW,Ac U,Qq5]
  show(step s (jn p,v.f.1,v.f.2.1,v.f.2.2.1)).bind _=(step s (jn p,v.f.1,v.f.2.1,v.f.2.2.1)).bind _
  congr 1
  funext s'
  exact AbN hok U (fun i s hi=>Ajq d n _ _ s U (hvp _ (Ew hi)) (hp.snoc (Afm hok hi)) (by simp;omega)) v.f.2.2.2.2.length 0 s' U
theorem AcO{v:Pv}(hv:Vd 10 v)(s:σ):J9 step v [] s=QS step s (lvs 10 v []):=Ajq 10 1000 v [] s U hv (fun x hx=>by cases hx) Qqd
end
end Go.Proofs.YtekmbcbgknmhiaaGreatDoor
end
noncomputable section
namespace Go.L
def ID(P:List (Lf×Int))(M:List (Lf×List Int)):List (Lf×List Int):=P.foldl (fun M p=>PO p.1 p.2 M) M
theorem ZG(P Q:List (Lf×Int))(M:List (Lf×List Int)):ID (P++Q) M=ID Q (ID P M):=List.foldl_append
theorem Afn(k k':Lf)(i z:Int)(M:List (Lf×List Int)):z∈BV [] k' (PO k i M)↔z∈BV [] k' M\/(k'=k/\z=i):=by
 unfold PO;rw [TH]
 by_cases h:k'=k
 ·subst h;simp
 ·simp [h]
theorem AcP(k k':Lf)(i:Int)(M:List (Lf×List Int)):k'∈(PO k i M).map Qq6↔k'=k\/k'∈M.map Qq6:=by
 unfold PO
 by_cases h:k∈M.map Qq6
 ·rw [SR _ h];exact⟨.inr,fun hh=>by rcases hh with rfl | hh;exact h;exact hh⟩
 ·rw [SS _ h];simp only [Qxf,Qzd,List.map_nil,QzQ,Qzf];exact⟨fun hh=>hh.symm,fun hh=>hh.symm⟩
theorem AaI(k:Lf)(i:Int){M:List (Lf×List Int)}(h:(M.map Qq6).Nodup):((PO k i M).map Qq6).Nodup:=by
 unfold PO
 by_cases hk:k∈M.map Qq6
 ·rw [SR _ hk];exact h
 ·rw [SS _ hk,Qxf]
  exact List.nodup_append.2 ⟨h,QkA _ _,fun a ha b hb e=>by
   simp only [Qzd,List.map_nil,Qzf] at hb;subst hb;subst e;exact hk ha⟩
theorem Wb(k:Lf)(z:Int):∀ (P:List (Lf×Int)) (M:List (Lf×List Int)),z∈BV [] k (ID P M)↔z∈BV [] k M\/(k,z)∈P
 | [],M=>by simp [ID]
 | p::P,M=>by
  show z∈BV [] k (ID P (PO p.1 p.2 M))↔_
  rw [Wb k z P,Afn,Qzy,or_assoc];have:(k=p.1/\z=p.2)↔(k,z)=p:=⟨fun h=>Prod.ext h.1 h.2,fun h=>by rw [<- h];exact⟨Z,Z⟩⟩;rw [this]
theorem Rv(k:Lf):∀ (P:List (Lf×Int)) (M:List (Lf×List Int)),k∈(ID P M).map Qq6↔k∈M.map Qq6\/∃ z,(k,z)∈P
 | [],M=>by simp [ID]
 | p::P,M=>by
  show k∈(ID P (PO p.1 p.2 M)).map Qq6↔_
  rw [Rv k P,AcP]
  constructor
  ·rintro((rfl | h) | ⟨z,h⟩)
   ·exact .inr ⟨p.2,.head _⟩
   ·exact .inl h
   ·exact .inr ⟨z,.tail _ h⟩
  ·rintro(h | ⟨z,h⟩)
   ·exact .inl (.inr h)
   ·rcases Qzy.1 h with rfl | h
    ·exact .inl (.inl Z)
    ·exact .inr ⟨z,h⟩
theorem Wc:∀ (P:List (Lf×Int)) {M:List (Lf×List Int)},(M.map Qq6).Nodup->((ID P M).map Qq6).Nodup
 | [],_,h=>h
 | p::P,_,h=>Wc P (AaI p.1 p.2 h)
theorem ZH(k:Lf)(i:Int)(M:List (Lf×List Int))(k':Lf):(BV [] k' (PO k i M)).length<=(BV [] k' M).length+1:=by
 unfold PO;rw [TH]
 split
 ·rename_i h;subst h;simp
 ·omega
theorem AaJ(k:Lf)(i:Int)(M:List (Lf×List Int)):(PO k i M).length<=M.length+1:=by
 unfold PO
 by_cases h:k∈M.map Qq6
 ·have:=congrArg List.length (SR (BV [] k M++[i]) h);rw [Qzk,Qzk] at this;omega
 ·rw [SS _ h];simp
theorem ZI(k:Lf):∀ (P:List (Lf×Int)) (M:List (Lf×List Int)),(BV [] k (ID P M)).length<=(BV [] k M).length+P.length
 | [],M=>by simp [ID]
 | p::P,M=>by
  have a:=ZI k P (PO p.1 p.2 M);have h2:=ZH p.1 p.2 M k
  show(BV [] k (ID P (PO p.1 p.2 M))).length<=_
  rw [Qzj];omega
theorem Wd:∀ (P:List (Lf×Int)) (M:List (Lf×List Int)),(ID P M).length<=M.length+P.length
 | [],M=>by simp [ID]
 | p::P,M=>by
  have a:=Wd P (PO p.1 p.2 M);have h2:=AaJ p.1 p.2 M
  show(ID P (PO p.1 p.2 M)).length<=_
  rw [Qzj];omega
end Go.L
namespace Go.Proofs.YtekmbcbgknmhiaaGreatDoor
open Go Go.L
theorem Afo{P:List (Lf×Int)}{e:En}:e∈Pp (ID P [])↔(∃ z,(e.1,z)∈P)/\e.2=QR (BV [] e.1 (ID P [])):=by
 unfold Pp;rw [Qz8]
 constructor
 ·rintro⟨k,hk,rfl⟩;have:=(Rv k P []).1 ((Oh _).mem_iff.1 hk);simp only [List.map_nil,List.not_mem_nil,false_or] at this;exact⟨this,Z⟩
 ·rintro⟨a,h2⟩;exact⟨e.1,(Oh _).mem_iff.2 ((Rv e.1 P []).2 (.inr a)),Prod.ext Z h2.symm⟩
def PQ:Int->List Pv->List (Lf×Int)
 | _,[]=>[]
 | i,v::l=>((lvs 10 v []).map fun x=>(x,i))++PQ (i+1) l
theorem We:∀ (i:Int) (a b:List Pv),PQ i (a++b)=PQ i a++PQ (i+a.length) b
 | i,[],b=>by simp [PQ]
 | i,v::a,b=>by
  simp only [QxZ,PQ,Qxd];rw [We (i+1) a b];simp only [Qzj];rw [show i+1+(a.length:Int)=i+((a.length+1:Nat):Int) by omega]
theorem AbO:∀ {i:Int} {a:List Pv} {p:Lf×Int},p∈PQ i a↔∃ j:Nat,j<a.length/\p.2=i+j/\p.1∈lvs 10 (a.getD j Qq2) []
 | _,[],p=>by simp [PQ]
 | i,v::a,p=>by
  simp only [PQ,QzQ,Qz8];rw [AbO]
  constructor
  ·rintro(⟨x,hx,rfl⟩ | ⟨j,b,h2,h3⟩)
   ·exact⟨0,by simp,by simp,hx⟩
   ·exact⟨j+1,by simp;omega,by omega,h3⟩
  ·rintro⟨j,b,h2,h3⟩
   cases j with
   | zero=>exact .inl ⟨p.1,h3,Prod.ext Z (by simpa using h2.symm)⟩
   | succ j=>exact .inr ⟨j,by simpa using b,by omega,h3⟩
theorem Yw:∀ (i:Int) {a:List Pv},(∀ v∈a,nodes 10 v<=600)->(PQ i a).length<=600 * a.length
 | _,[],_=>by simp [PQ]
 | i,v::a,h=>by
  simp only [PQ,Qzu,Qzk,Qzj];have b:=Yw (i+1) fun v hv=>h v (.tail _ hv);have h2:=h v (.head _);rw [Yv];omega
theorem Wf(i:Int):∀ (l:List Lf) (M:List (Lf×List Int)) (N:Nat),Bd N M->N+l.length<=1000000000->QS (Kr i) M l=some (ID (l.map fun x=>(x,i)) M)
 | [],_,_,_,_=>rfl
 | x::l,M,N,hM,hN=>by
  rw [Qzj] at hN;unfold QS;have hx:=hM x
  have e:Kr i M x=some (PO x i M):=by
   unfold Kr;rw [Ac (by unfold Go.E.HK;omega)]
   rfl
  rw [e,Qq5,Wf i l (PO x i M) (N+1) (fun k=>by have:=ZH x i M k;have:=hM k;omega) U]
  rfl
def W5(a:List Pv):Prop:=∀ v∈a,EI v=some (0,0)/\Vd 10 v/\nodes 10 v<=600
theorem AbP(P:List (Lf×Int)):Bd P.length (ID P []):=fun k=>by have:=ZI k P [];simpa [BV] using this
theorem Xy{B:Nat}(hB:B<=100000000000){a:List Pv}(hl:a.length<=64)(hs:∀ v∈a,Sm B 10 v):∀ (k i:Nat),i+k=a.length->W5 (a.take i)->
  (∃ j f,j<a.length/\EI (a.getD j Qq2)=some f/\f.1≠0/\W5 (a.take j)/\Go.L.run (Dg a) (ID (PQ 0 (a.take i)) [],(i:Int))=some ((0,[]),(f.1,(j:Int))))\/
  (W5 a/\Go.L.run (Dg a) (ID (PQ 0 (a.take i)) [],(i:Int))=Hv (a.length:Int) (ID (PQ 0 a) []))
 | 0,i,hi,hv=>by
  right
  rw [Qxk U] at hv ⊢;refine⟨hv,?_⟩
  have e:Dg a (ID (PQ 0 a) [],(i:Int))=(Hv (a.length:Int) (ID (PQ 0 a) [])).map Sum.inr:=by
   unfold Dg J1;dsimp only;rw [if_neg U]
   cases Hv (a.length:Int) (ID (PQ 0 a) []) <;> rfl
  exact AP e
 | k+1,i,hi,hv=>by
  have hil:i<a.length:=by omega
  obtain⟨f,b,h2⟩:=Ue hB (hs _ (Ew hil))
  have htk:a.take (i+1)=a.take i++[a.getD i Qq2]:=by
   rw [QxX,Qzw hil];simp [Qzq,Qzw hil]
  rcases h2 with ⟨rfl,h3,c⟩ | hf
  ·have hlen:=Yw 0 fun v hvm=>(hv v hvm).2.2;rw [QzK] at hlen
   have hadd:PQ 0 (a.take (i+1))=PQ 0 (a.take i)++(lvs 10 (a.getD i Qq2) []).map fun x=>(x,(i:Int)):=by
    rw [htk,We];simp only [PQ,QzX,QzK];rw [show(0:Int)+((min i a.length:Nat):Int)=(i:Int) by omega]
   have hb:Dg a (ID (PQ 0 (a.take i)) [],(i:Int))=some (.inl (ID (PQ 0 (a.take (i+1))) [],((i+1:Nat):Int))):=by
    unfold Dg;dsimp only;rw [if_pos U,Ac U,Qq8,b,Qq5,if_pos ⟨Z,Z⟩,AcO h3,Wf (i:Int) _ _ _ (AbP _) (by rw [Yv];omega),Qq5,Ac (by unfold Bz;omega),hadd,ZG]
    rfl
   rw [Be hb];refine Xy hB hl hs k (i+1) U ?_;rw [htk];intro v hvm
   rcases QzQ.1 hvm with h | h
   ·exact hv v h
   ·rw [Qzf] at h;subst h;exact⟨b,h3,c⟩
  ·left
   refine⟨i,f,hil,b,hf,hv,AP (m:=some ((0,[]),(f.1,(i:Int)))) ?_⟩;unfold Dg DJ;dsimp only;rw [if_pos U,Ac U,Qq8,b,Qq5,if_neg (fun h=>hf h.1)]
   rfl
theorem AbQ:∀ (d:Nat) (v:Pv) (p:List (List UInt8)) {x:Lf},Vd d v->POk p->x∈lvs d v p->∃ (q:List (List UInt8)) (u:Pv),x=(jn q,u.f.1,u.f.2.1,u.f.2.2.1)/\POk q/\q.length+1<=p.length+d/\TD u/\∀ B,Sm B d v->Bz u.f.1/\Bz u.f.2.1/\u.f.2.2.1.length<=B
 | 0,_,_,_,h,_,_=>h.elim
 | d+1,v,p,x,hv,hp,hx=>by
  obtain⟨hok,hvp⟩:=hv;unfold lvs at hx
  rcases Qzy.1 hx with rfl | hx
  ·exact⟨p,v,Z,hp,by omega,hok,fun B hB=>⟨hB.2.2.2.2.1,hB.2.2.2.2.2.1,hB.1⟩⟩
  ·obtain⟨i,hi,hxi⟩:=List.mem_flatMap.1 hx
   have hil:i<v.f.2.2.2.2.length:=by
    have:=List.mem_range'_1.1 hi;omega
   obtain⟨q,u,a,h2,h3,b,c⟩:=AbQ d _ _ (hvp _ (Ew hil)) (hp.snoc (Afm hok hil)) hxi;refine⟨q,u,a,h2,by simp at h3;omega,b,fun B hB=>c B (hB.2.2.2.2.2.2 _ (Ew hil))⟩
theorem AgY{v:Pv}{x:Lf}(hv:Vd 10 v)(hs:Sm 1048576 10 v)(hx:x∈lvs 10 v []):(x.1.length<=330/\¬ 0<=wr false 0 (sl x.1))/\(1<=x.2.1/\x.2.1<=4)/\(x.2.2.1=0\/x.2.1=1)/\(x.2.2.2=[]\/x.2.1=2)/\Bz x.2.2.1/\x.2.2.2.length<=1048576:=by
 obtain⟨q,u,rfl,h2,h3,a,b⟩:=AbQ 10 v [] hv (fun y hy=>by cases hy) hx;obtain⟨e,c,d⟩:=b _ hs;have hj:=h2.VZ;simp only [Qze] at h3;refine⟨⟨by show(jn q).length<=330;omega,?_⟩,?_,?_,?_,c,d⟩
 ·show ¬ 0<=wr false 0 (sl (jn q))
  rw [Ajo (fun y hy=>(AaH (h2 y hy)).1) (fun y hy=>(AaH (h2 y hy)).2.1),Ajp (fun y hy=>by rw [h2 y hy];rfl)]
  decide
 ·show 1<=u.f.1/\u.f.1<=4
  rcases a.kind with h | h | h | h <;> omega
 ·show u.f.2.1=0\/u.f.1=1
  exact a.num.symm
 ·show u.f.2.2.1=[]\/u.f.1=2
  exact a.bytes.symm
theorem AgZ{P:List (Lf×Int)}(hP:P.length<=1000000)(h:∀ p∈P,p.1.1.length<=2000000/\Bz p.1.2.1/\Bz p.1.2.2.1/\p.1.2.2.2.length<=2000000/\Bz p.2):MS (ID P []):=by
 refine⟨by have:=Wd P [];simp at this;omega,fun k hk=>?_⟩
 rcases(Rv k P []).1 hk with a | ⟨z,hz⟩
 ·cases a
 ·obtain⟨b,h2,h3,c,_⟩:=h _ hz;refine⟨b,h2,h3,c,by have:=AbP P k;omega,fun y hy=>?_⟩
  rcases(Wb k y P []).1 hy with a | hy
  ·simp [BV] at a
  ·exact(h _ hy).2.2.2.2
theorem ZJ{l:List Lf}(h:l.Nodup):(MA l).Pairwise (fun a b=>Ni a b<0):=by
 have hsorted:(MA l).Pairwise fun x y=>(!(Go.Proofs.ltOf Ni) y x)=true:=by
  rw [<- Afe];have hlt:∀ a b,(!(Go.Proofs.ltOf Ni) b a)=true↔¬ Ni b a<0:=fun a b=>by simp [Go.Proofs.ltOf]
  refine Sg (fun a b c f h2=>?_) (fun a b=>?_) l
  ·rw [hlt] at *;intro h3;have s1:=Ou.swap a b
   rcases Qke (Ni a b) 0 with d | d | d
   ·exact h2 (Ou.trans c a b h3 d)
   ·rw [Ou.zero a b d] at h3;exact h2 h3
   ·omega
  ·rw [hlt,hlt];have s1:=Ou.swap a b;omega
 have hn:(MA l).Nodup:=(Oh l).nodup_iff.2 h;refine(List.pairwise_and_iff.2 ⟨hsorted,hn⟩).imp fun {a b} hab=>?_;obtain⟨f,h2⟩:=hab;have h1' : ¬ Ni b a<0:=by simpa [Go.Proofs.ltOf] using f
 have s1:=Ou.swap a b;have:Ni a b≠0:=fun e=>h2 (Ou.zero a b e);omega
theorem ZK{a:List Pv}(hl:a.length<=64)(hv:W5 a)(hs:∀ v∈a,Sm 1048576 10 v):GI (a.length:Int) (Pp (ID (PQ 0 a) []))/\MS (ID (PQ 0 a) []):=by
 have hlen:=Yw 0 fun v hvm=>(hv v hvm).2.2
 have hp:∀ p∈PQ 0 a,((p.1.1.length<=330/\¬ 0<=wr false 0 (sl p.1.1))/\(1<=p.1.2.1/\p.1.2.1<=4)/\(p.1.2.2.1=0\/p.1.2.1=1)/\(p.1.2.2.2=[]\/p.1.2.1=2)/\Bz p.1.2.2.1/\p.1.2.2.2.length<=1048576)/\0<=p.2/\p.2<a.length:=fun p hpm=>by
  obtain⟨j,c,h2,h3⟩:=AbO.1 hpm;exact⟨AgY (hv _ (Ew c)).2.1 (hs _ (Ew c)) h3,by omega,by omega⟩
 have hMS:MS (ID (PQ 0 a) []):=AgZ U fun p hpm=>by
  obtain⟨⟨c,h2,h3,m,d,n⟩,o,q⟩:=hp p hpm;exact⟨by omega,by unfold Bz;omega,d,by omega,by unfold Bz;omega⟩
 refine⟨⟨by omega,by omega,fun e he=>?_,Aff hMS,by rw [ZC];exact hMS.1,?_⟩,hMS⟩
 ·obtain⟨⟨z,hz⟩,h2⟩:=Afo.1 he;obtain⟨⟨f,g,i,k,r,s⟩,t,u⟩:=hp _ hz
  have hm:∀ y,y∈e.2↔(e.1,y)∈PQ 0 a:=fun y=>by
   rw [h2,(Ru _).2,Wb];simp [BV]
  refine⟨f,g,i,k,fun l=>?_,fun y hy=>?_,?_⟩
  ·have:=(hm z).2 hz;rw [l] at this
   cases this
  ·exact(hp _ ((hm y).1 hy)).2
  ·rw [h2];exact(Ru _).1.imp fun {a b} h=>by omega
 ·unfold Pp;rw [Qkk];exact ZJ (Wc _ Qqd)
theorem ZL{a:List Pv}(hs:∀ v∈a,Sm 1048576 10 v):∃ r,Kt a=some r/\((64<a.length/\r=((0,[]),(2,-1)))\/
  (a.length<=64/\∃ j f,j<a.length/\EI (a.getD j Qq2)=some f/\f.1≠0/\W5 (a.take j)/\r=((0,[]),(f.1,(j:Int))))\/
  (a.length<=64/\W5 a/\r=AaG (a.length:Int) (ID (PQ 0 a) []))):=by
 unfold Kt DJ
 by_cases h:64<a.length
 ·rw [if_pos U];exact⟨_,Z,.inl ⟨h,Z⟩⟩
 ·rw [if_neg U];unfold Lg
  rcases Xy (B:=1048576) U U hs a.length 0 U (fun v hv=>by simp at hv) with ⟨j,f,b,h2,h3,c,d⟩ | ⟨b,h2⟩
  ·exact⟨_,d,.inr (.inl ⟨by omega,j,f,b,h2,h3,c,Z⟩)⟩
  ·refine⟨AaG (a.length:Int) (ID (PQ 0 a) []),?_,.inr (.inr ⟨by omega,b,Z⟩)⟩;have:=h2.trans (Afg (by unfold Bz;omega) (ZK U b hs).2);exact this
end Go.Proofs.YtekmbcbgknmhiaaGreatDoor
end
noncomputable section
namespace Go.Proofs.YtekmbcbgknmhiaaGreatDoor
open Go Go.L
def Sd(d:List UInt8×Pv):Prop:=d.1.length<=1048576/\Sm 1048576 10 d.2
theorem Wg(i:Nat)(l:List (List UInt8)):(∀ t∈l,t.length<=2048)->ND i l=none:=by
 induction l generalizing i with
 | nil=>intro _;rfl
 | cons a l ih=>
  intro h;have:=h a (QzJ ..);unfold ND;rw [if_neg U];exact ih _ fun t ht=>h t (QzA _ ht)
theorem Afp{items:List (List UInt8)}(hn:items.length<=64)(ht:∀ t∈items,t.length<=2048):∃ r,Jj items=some r:=by
 have hl:=Wg 0 items ht;rw [Z5 hn ht hl]
 split
 ·exact⟨_,Z⟩
 ·exact⟨_,Z⟩
def Sh:((Int×(List ((List UInt8)×(List (Int×Int)))))×(Int×(List (((List UInt8)×Int×Int×(List UInt8))×(List Int))))×(List (((List Int))×(List Int)×(List Int)))):=(((0:Int),[]),((0:Int),[]),[])
theorem AcQ{l:List (List UInt8×Pv)}(hl:l.length<=64)(hs:∀ d∈l,Sd d)(ht:∀ d∈l,d.1.length<=2048):∃ r,ER (l.map QzZ) (l.map Qq6) (l.map fun d=>idx d.1)=some r/\(r.2.1=0/\r.1.2.2=l.map (fun d=>idx d.1)\/r.2.1≠0/\r.1=Sh):=by
 have h:∀ (p:List (((List Int))×(List Int)×(List Int))) (a b c e:Int) (f:List ((List UInt8)×(List (Int×Int)))) (g:List (((List UInt8)×Int×Int×(List UInt8))×(List Int))),∃ r,Ei p a b c f e g=some r/\(r.2.1=0/\r.1.2.2=p\/r.2.1≠0/\r.1=Sh):=fun p a b c e f g=>by
  unfold Ei Cn
  split
  ·exact⟨_,Z,.inl ⟨Z,Z⟩⟩
  ·exact⟨_,Z,.inr ⟨(show(14:Int)≠0 by decide),Z⟩⟩
 unfold ER;obtain⟨w,hw⟩:=Afp (items:=l.map Qq6) (by simpa using hl) (fun t ht'=>by obtain⟨d,hd,rfl⟩:=Qz8.1 ht';exact ht d hd);obtain⟨s,hsb,_⟩:=ZL (a:=l.map QzZ) (fun v hv=>by obtain⟨d,hd,rfl⟩:=Qz8.1 hv;exact(hs d hd).2);rw [hw,Qq5,hsb]
 split
 ·exact h _ _ _ _ _ _ _
 ·exact h _ _ _ _ _ _ _
theorem Wh{l:List (List UInt8×Pv)}(hl:l.length<=64)(hs:∀ d∈l,Sd d):∀ (d i:Nat),i+d=l.length->(∀ x∈l.take i,x.1.length<=2048)->
  ∃ r,J5 l ((l.take i).map QzZ,(l.take i).map Qq6,(l.take i).map (fun d=>idx d.1),(i:Int))=some r/\((∀ d∈l,d.1.length<=2048)/\ER (l.map QzZ) (l.map Qq6) (l.map fun d=>idx d.1)=some r\/r.2.1≠0/\r.1=Sh)
 | 0,i,hi,ht=>by
  have he:l.take i=l:=Qxk U;rw [he] at ht ⊢;obtain⟨r,a,h2⟩:=AcQ hl hs ht;refine⟨r,?_,.inl ⟨ht,a⟩⟩;rw [<- a];refine AP ?_;unfold Dl;simp only;rw [if_neg U]
 | d+1,i,hi,ht=>by
  have hil:i<l.length:=by omega
  have hg:l.getD ((i:Int)).toNat Qq2=l[i]:=by rw [Qq8,Qzq,Qzw hil];rfl
  have hm:l[i]∈l:=Qxj _;have hlt:(l.take i).length<=64:=by rw [QzK];omega
  have hc:∀ (n b:Nat),n<=64->b<=100->Go.E.HK b (n+1):=fun n b hn hb=>by
   unfold Go.E.HK;have:=Nat.mul_le_mul (show n+1<=65 by omega) hb;exact⟨by omega,by omega⟩
  unfold J5
  by_cases h2:l[i].1.length<=2048
  ·obtain⟨f,hf,hv⟩:=Ue (B:=1048576) U (hs _ hm).2
   by_cases h3:f.1=0/\f.2=0
   ·have hb:Dl l ((l.take i).map QzZ,(l.take i).map Qq6,(l.take i).map (fun d=>idx d.1),(i:Int))=some (.inl ((l.take i).map QzZ++[l[i].2],(l.take i).map Qq6++[l[i].1],(l.take i).map (fun d=>idx d.1)++[idx l[i].1],((i+1:Nat):Int))):=by
     unfold Dl;simp only;rw [if_pos U,Ac U,hg,VM,Qq5,if_pos h2];simp only [and_self,if_true];rw [hf,Qq5,if_pos h3,Ac (by rw [Qzk];exact hc _ _ hlt U),Ac (by rw [Qzk];exact hc _ _ hlt U),Ac (by rw [Qzk];exact hc _ _ hlt U)];unfold J4;rw [Ac (by unfold Bz;omega)]
     rfl
    have e:l.take (i+1)=l.take i++[l[i]]:=(List.take_append_getElem hil).symm
    have ih:=Wh hl hs d (i+1) U (fun x hx=>by
     rw [e] at hx
     rcases QzQ.1 hx with hx | hx
     ·exact ht x hx
     ·obtain rfl:=Qzf.1 hx;exact h2)
    rw [Be hb];rw [e,Qxf,Qxf,Qxf] at ih;exact ih
   ·have hb:Dl l ((l.take i).map QzZ,(l.take i).map Qq6,(l.take i).map (fun d=>idx d.1),(i:Int))=some (.inr (Sh,(f.1,(i:Int)))):=by
     unfold Dl;simp only;rw [if_pos U,Ac U,hg,VM,Qq5,if_pos h2];simp only [and_self,if_true];rw [hf,Qq5,if_neg h3]
     rfl
    refine⟨(Sh,(f.1,(i:Int))),AP (m:=some (Sh,(f.1,(i:Int)))) hb,.inr ⟨?_,Z⟩⟩;intro c
    rcases hv with ⟨rfl,_⟩ | hv
    ·exact h3 ⟨Z,Z⟩
    ·exact hv c
  ·have hb:Dl l ((l.take i).map QzZ,(l.take i).map Qq6,(l.take i).map (fun d=>idx d.1),(i:Int))=some (.inr (Sh,(3,(i:Int)))):=by
    unfold Dl;simp only;rw [if_pos U,Ac U,hg,VM,Qq5,if_neg h2]
    rfl
   exact⟨(Sh,(3,(i:Int))),AP (m:=some (Sh,(3,(i:Int)))) hb,.inr ⟨(show(3:Int)≠0 by decide),Z⟩⟩
theorem Afq{n:Int}{es:HM}(hn:es.length<=1000000000)(hs:Inc (es.map Qq6))(w:List UInt8)(hh:(BV [] w es).length<=1000000000):G0 (n,es) w=some (if wf w=(0,0) then BV [] w es else[],wf w):=by
 unfold G0;rw [Oc,Qq5]
 by_cases h:wf w=(0,0)
 ·rw [if_pos h,if_pos (by rw [h];exact⟨Z,Z⟩)];simp only;rw [PN hn w hs,Qq5];unfold D7;rw [Ac (by rw [Qze];constructor <;> omega),Qq5,Qxz,h]
 ·rw [if_neg h,if_neg (fun x=>h (Prod.ext x.1 x.2))]
end Go.Proofs.YtekmbcbgknmhiaaGreatDoor
end
noncomputable section
namespace Go.L
open Go Go.Proofs.YtekmbcbgknmhiaaGreatDoor
def Aha(P:List (List UInt8×Mv))(l:List (List UInt8))(h:Mv):Prop:=∀ k,k<l.length->(l.getD k Qq2,(h.1,h.2+(k:Int)))∈P
noncomputable instance (P:List (List UInt8×Mv)) (l:List (List UInt8)) (h:Mv):Decidable (Aha P l h):=Classical.propDecidable _
def Yx:Nat->List (List UInt8)->Option (Int×Int)
 | _,[]=>none
 | i,w::r=>if wf w=(0,0) then Yx (i+1) r else some ((wf w).1,(i:Int))
end Go.L
namespace Go.Proofs.YtekmbcbgknmhiaaGreatDoor
open Go Go.L
theorem SV{l:List Mv}(hn:l.length<=1000000000)(p:Mv):Ci l p=some (decide (p∈l)):=by
 unfold Ci D6 DU
 have key:∀ (r:List Mv) (i:Nat),l.drop i=r->∃ z,run (B6 l p) (i:Int)=some z/\(0<=z↔p∈r):=by
  intro r
  induction r with
  | nil=>
   intro i hd;have hlen:=Of hd;refine⟨-1,AP (m:=some (-1)) ?_,by simp⟩;unfold B6 CW;rw [if_neg U]
  | cons x r ih=>
   intro i hd;obtain⟨hg,hd',hlt⟩:=MI hd
   by_cases h:p.1=x.1/\p.2=x.2
   ·refine⟨(i:Int),AP (m:=some (i:Int)) ?_,by simp [Prod.ext h.1 h.2]⟩;unfold B6;rw [if_pos U,Ac ⟨by omega,by omega⟩,Qq8,hg,if_pos h]
   ·obtain⟨z,a,h2⟩:=ih (i+1) hd';refine⟨z,?_,?_⟩
    ·rw [<- a];refine Be ?_;unfold B6;rw [if_pos U,Ac ⟨by omega,by omega⟩,Qq8,hg,if_neg h,Ac (by constructor <;> omega)]
     rfl
    ·rw [h2,Qzy];exact⟨.inr,fun h'=>h'.resolve_left (fun e=>h (by rw [e];exact⟨Z,Z⟩))⟩
 obtain⟨z,a,h2⟩:=key l 0 Z;have e:((p.1,p.2):Mv)=p:=Z;rw [e];rw [show run (B6 l p) 0=some z from a,Qq5]
 congr 1
 exact decide_eq_decide.2 h2
theorem SX{l:List Int}(hn:l.length<=1000000000)(p:Int):BD l p=some (decide (p∈l)):=by
 unfold BD DX DN
 have key:∀ (r:List Int) (i:Nat),l.drop i=r->∃ z,run (Bc l p) (i:Int)=some z/\(0<=z↔p∈r):=by
  intro r
  induction r with
  | nil=>
   intro i hd;have hlen:=Of hd;refine⟨-1,AP (m:=some (-1)) ?_,by simp⟩;unfold Bc De;rw [if_neg U]
  | cons x r ih=>
   intro i hd;obtain⟨hg,hd',hlt⟩:=MI hd
   by_cases h:p=x
   ·refine⟨(i:Int),AP (m:=some (i:Int)) ?_,by simp [h]⟩;unfold Bc;rw [if_pos U,Ac ⟨by omega,by omega⟩,Qq8,hg,if_pos h]
   ·obtain⟨z,a,h2⟩:=ih (i+1) hd';refine⟨z,?_,?_⟩
    ·rw [<- a];refine Be ?_;unfold Bc;rw [if_pos U,Ac ⟨by omega,by omega⟩,Qq8,hg,if_neg h,Ac (by constructor <;> omega)]
     rfl
    ·rw [h2,Qzy];exact⟨.inr,fun h'=>h'.resolve_left h⟩
 obtain⟨z,a,h2⟩:=key l 0 Z;rw [show run (Bc l p) 0=some z from a,Qq5]
 congr 1
 exact decide_eq_decide.2 h2
structure XOk (es:HM):Prop where
 len:es.length<=1000000
 inc:Inc (es.map Qq6)
 AaK:∀ w,(BV [] w es).length<=1000000/\∀ h∈BV [] w es,-1000000<=h.2/\h.2<=1000000
theorem XOk.Ajr{items:List (List UInt8)}(hn:items.length<=64)(ht:∀ t∈items,t.length<=2048):XOk (E items):=by
 have hp:=TC hn ht;have he:=AeU items;refine⟨by omega,Ajg items,fun w=>?_⟩;rw [Xs];have a:=PM (HD 0 items) w;refine⟨by omega,fun h hh=>?_⟩;have h2:=Jx 0 items 2048 ht _ (MJ.1 hh);simp only at h2;omega
def Wi(es:HM)(l:List (List UInt8))(h:Mv)(k:Nat):Prop:=∀ m,k<=m->m<l.length->(h.1,h.2+(m:Int))∈BV [] (l.getD m Qq2) es
noncomputable instance (es:HM) (l:List (List UInt8)) (h:Mv) (k:Nat):Decidable (Wi es l h k):=Classical.propDecidable _
theorem AbR{n:Int}{es:HM}(hx:XOk es){l:List (List UInt8)}(hl:l.length<=16)(out H0:List Mv)(hH:H0.length<=1000000){j:Nat}{h:Mv}(hj:j<H0.length)(hg:H0.getD j Qq2=h)(hb : -1000000<=h.2/\h.2<=1000000):
  ∀ (r:List (List UInt8)) (k:Nat),l.drop k=r->run (Cm (n,es) l out (j:Int) H0) (k:Int)=if Wi es l h k then E7 out (j:Int) H0 else CZ (j:Int) out
 | [],k,hd=>by
  have hlen:=Of hd;rw [if_pos (show Wi es l h k from fun m a h2=>by omega)];refine AP ?_;unfold Cm;rw [if_neg U]
 | w::r,k,hd=>by
  obtain⟨hgk,hd',hlt⟩:=MI hd;have hw:=hx.AaK w
  by_cases hm:(h.1,h.2+(k:Int))∈BV [] w es
  ·have hb':Cm (n,es) l out (j:Int) H0 (k:Int)=some (.inl ((k+1:Nat):Int)):=by
    unfold Cm;simp only;rw [if_pos U,Ac ⟨by omega,by omega⟩,Qq8,Qq8,hg,hgk,Ac (by constructor <;> omega),PN (by have:=hx.len;omega) w hx.inc,Qq5,SV U,Qq5,decide_eq_true hm,if_neg Qqc,Ac (by constructor <;> omega)]
    rfl
   rw [Be hb',AbR hx hl out H0 hH hj hg hb r (k+1) hd']
   have e:Wi es l h (k+1)↔Wi es l h k:=by
    constructor
    ·intro hh m a h2
     rcases Qxw k m with h3 | h3
     ·exact hh m h3 h2
     ·obtain rfl:k=m:=by omega
      rw [hgk];exact hm
    ·intro hh m a h2;exact hh m U h2
   by_cases hf:Wi es l h k
   ·rw [if_pos hf,if_pos (e.2 hf)]
   ·rw [if_neg hf,if_neg (fun x=>hf (e.1 x))]
  ·rw [if_neg (fun hh=>hm (by have:=hh k (Qzx _) hlt;rw [hgk] at this;exact this))];refine AP ?_;unfold Cm;simp only;rw [if_pos U,Ac ⟨by omega,by omega⟩,Qq8,Qq8,hg,hgk,Ac (by constructor <;> omega),PN (by have:=hx.len;omega) w hx.inc,Qq5,SV U,Qq5,decide_eq_false hm,if_pos Qqc]
def KY(es:HM)(l:List (List UInt8))(h:Mv):Prop:=∀ m,m<l.length->(h.1,h.2+(m:Int))∈BV [] (l.getD m Qq2) es
noncomputable instance (es:HM) (l:List (List UInt8)) (h:Mv):Decidable (KY es l h):=Classical.propDecidable _
theorem AbS{n:Int}{es:HM}(hx:XOk es){l:List (List UInt8)}(hl:l.length<=16)(H0:List Mv)(hH:H0.length<=1000000):∀ (r:List Mv) (j:Nat) (out:List Mv),H0.drop j=r->out.length<=j->(∀ h∈r,-1000000<=h.2/\h.2<=1000000)->
  run (CO (n,es) l H0) (out,(j:Int))=some (out++r.filter (fun h=>decide (KY es l h)),(0,0))
 | [],j,out,hd,ho,_=>by
  have hlen:=Of hd;refine AP ?_;unfold CO Gg;simp only;rw [if_neg U,List.filter_nil,QzX]
 | h::r,j,out,hd,ho,hr=>by
  obtain⟨hg,hd',hlt⟩:=MI hd;have hb:=hr h (QzJ ..);have a:=AbR (n:=n) hx hl out H0 hH hlt hg hb l 0 Z
  have hbody:CO (n,es) l H0 (out,(j:Int))=some (.inl (out++(if KY es l h then[h] else[]),((j+1:Nat):Int))):=by
   unfold CO Ie;simp only;rw [if_pos U,Ac ⟨by omega,by omega⟩];refine a.trans ?_
   by_cases hf:KY es l h
   ·rw [if_pos hf,if_pos (show Wi es l h 0 from fun m _ h2=>hf m h2)];unfold E7 CZ;rw [Qq8,hg,Ac (by rw [QxC];constructor <;> omega),Ac (by constructor <;> omega)]
    rfl
   ·rw [if_neg hf,if_neg (fun hh=>hf (fun m h2=>hh m (Qz5 _) h2)),QzX];unfold CZ;rw [Ac (by constructor <;> omega)]
    rfl
  rw [Be hbody,AbS hx hl H0 hH r (j+1) _ hd' (by rw [Qzu];split <;> simp <;> omega) (fun x hx'=>hr x (QzA _ hx')),Qxd]
  congr 3
  by_cases hf:KY es l h
  ·rw [if_pos hf,List.filter_cons_of_pos (p:=fun h=>decide (KY es l h)) (decide_eq_true hf)];rfl
  ·rw [if_neg hf,List.filter_cons_of_neg (p:=fun h=>decide (KY es l h)) (by simpa using hf)];rfl
theorem AcR{n:Int}{es:HM}(hx:XOk es)(l:List (List UInt8)):
  Ef (n,es) l=some (if l=[] then([],(10,-1)) else if 16<l.length then([],(2,-1)) else match Yx 0 l with | some f=>([],f) | none=>((BV [] (l.getD 0 Qq2) es).filter (fun h=>decide (KY es l h)),(0,0))):=by
 unfold Ef
 by_cases b:l=[]
 ·subst b;rfl
 have d:=List.length_pos_iff.2 b;rw [if_neg U,if_neg b]
 by_cases a:16<l.length
 ·rw [if_pos U,if_pos a];rfl
 rw [if_neg U,if_neg a];unfold Ih
 have key:∀ (r:List (List UInt8)) (i:Nat),l.drop i=r->run (CP (n,es) l) (i:Int)=some (match Yx i r with | some f=>([],f) | none=>((BV [] (l.getD 0 Qq2) es).filter (fun h=>decide (KY es l h)),(0,0))):=by
  intro r
  induction r with
  | nil=>
   intro i hd;have hlen:=Of hd;refine AP ?_;unfold CP Gh Ig;have hw:=hx.AaK (l.getD 0 Qq2);have c:(0:Int).toNat=0:=Z;rw [if_neg U,Ac ⟨by omega,by omega⟩,c,PN (by have:=hx.len;omega) _ hx.inc,Qq5];have:=AbS (n:=n) hx (l:=l) U (BV [] (l.getD 0 Qq2) es) hw.1 _ 0 [] Z (Qzx _) hw.2;rw [Qxz] at this
   congr 1
  | cons w r ih=>
   intro i hd;obtain⟨hg,hd',hlt⟩:=MI hd;unfold Yx
   by_cases h:wf w=(0,0)
   ·rw [if_pos h,<- ih (i+1) hd'];refine Be ?_;unfold CP;rw [if_pos U,Ac ⟨by omega,by omega⟩,Qq8,hg,Oc,Qq5,if_pos (by rw [h];exact⟨Z,Z⟩),Ac (by constructor <;> omega)]
    rfl
   ·rw [if_neg h];refine AP ?_;unfold CP;rw [if_pos U,Ac ⟨by omega,by omega⟩,Qq8,hg,Oc,Qq5,if_neg (fun x=>h (Prod.ext x.1 x.2))]
    rfl
 exact key l 0 Z
end Go.Proofs.YtekmbcbgknmhiaaGreatDoor
end
noncomputable section
namespace Go.L
open Go Go.Proofs.YtekmbcbgknmhiaaGreatDoor
def Uf(items:List (List UInt8))(a b:List UInt8)(d x:Int):Prop:=∃ k k':Int,(a,(x,k))∈HD 0 items/\(b,(x,k'))∈HD 0 items/\k≠k'/\-d<=k - k'/\k - k'<=d
theorem Uf.symm{items:List (List UInt8)}{a b:List UInt8}{d x:Int}:Uf items a b d x↔Uf items b a d x:=by
 constructor <;> (rintro⟨k,k',c,h2,h3,f,g⟩;exact⟨k',k,h2,c,fun e=>h3 e.symm,by omega,by omega⟩)
theorem Uf.more{items:List (List UInt8)}{a b:List UInt8}{d e x:Int}(h:d<=e):Uf items a b d x->Uf items a b e x:=by
 rintro⟨k,k',c,h2,h3,f,g⟩;exact⟨k,k',c,h2,h3,by omega,by omega⟩
abbrev Ahb(l:List Int):Prop:=l.Pairwise (· < ·)
def Cl(k h:Mv)(d:Int):Prop:=h.1=k.1/\h.2≠k.2/\-d<=h.2 - k.2/\h.2 - k.2<=d
theorem SZ:∀ (i:Nat) (r:List (List UInt8)),(HD i r).Pairwise fun p q=>p.2.1<=q.2.1
 | _,[]=>List.Pairwise.nil
 | i,t::r=>by
  unfold HD;refine Qja.2 ⟨?_,SZ (i+1) r,fun p hp q hq=>?_⟩
  ·rw [List.pairwise_iff_forall_sublist];intro p q hs;have a:=O2 (hs.subset (QzJ ..));have h2:=O2 (hs.subset (QzA _ (QzJ ..)));omega
  ·have a:=O2 hp;have h2:=(Jx (i+1) r (total r) (fun t ht=>Xu ht) q hq).1;omega
theorem W6(items:List (List UInt8))(w:List UInt8):(Oe (HD 0 items) w).Pairwise fun h k=>h.1<=k.1:=by
 unfold Oe;rw [Qkk];exact(SZ 0 items).filter _
end Go.L
namespace Go.Proofs.YtekmbcbgknmhiaaGreatDoor
open Go Go.L
theorem Afr{k h:Mv}{d:Int}(hd:1<=d)(hk : -1000000<=k.2/\k.2<=1000000)(hh : -1000000<=h.2/\h.2<=1000000):∃ b,EX k h d=some (b,(h.1,h.2),d)/\(b=true↔Cl k h d):=by
 unfold EX;rw [Ac (by constructor <;> omega),Ac (by constructor <;> omega)];unfold Cl
 by_cases a:(h.1=k.1)/\((0:Int)<(max (h.2 - k.2) (k.2 - h.2)))
 ·rw [if_pos a];refine⟨_,Z,?_⟩;rw [decide_eq_true_eq]
  constructor
  ·intro h2;exact⟨a.1,by omega,by omega,by omega⟩
  ·rintro⟨_,_,h2,h3⟩;omega
 ·rw [if_neg a];refine⟨_,Z,?_⟩;simp only [Bool.false_eq_true,false_iff];rintro⟨h2,h3,_⟩;exact a ⟨h2,by omega⟩
theorem W7{B:List Mv}(hB:B.length<=1000000)(hb:∀ k∈B,-1000000<=k.2/\k.2<=1000000){h:Mv}(hh : -1000000<=h.2/\h.2<=1000000){d:Int}(hd:1<=d):
  ∃ b,BH B h d=some (b,(h.1,h.2),d)/\(b=true↔∃ k∈B,Cl k h d):=by
 unfold BH CQ Dq
 have key:∀ (r:List Mv) (i:Nat),B.drop i=r->∃ z,run (Bq B) (h.1,h.2,d,(i:Int))=some (z,(h.1,h.2),d)/\(0<=z↔∃ k∈r,Cl k h d):=by
  intro r
  induction r with
  | nil=>
   intro i hdr;have hlen:=Of hdr;refine⟨-1,AP (m:=some (-1,(h.1,h.2),d)) ?_,by simp⟩;unfold Bq Cs;simp only;rw [if_neg U]
  | cons x r ih=>
   intro i hdr;obtain⟨hg,hd',hlt⟩:=MI hdr;have hx:x∈B:=List.mem_of_mem_drop (by rw [hdr];exact QzJ ..);obtain⟨b,a,h2⟩:=Afr (k:=x) hd (hb x hx) hh;have h1':EX (x.1,x.2) (h.1,h.2) d=some (b,(h.1,h.2),d):=a
   cases b with
   | true=>
    refine⟨(i:Int),AP (m:=some ((i:Int),(h.1,h.2),d)) ?_,?_⟩
    ·unfold Bq;simp only;rw [if_pos U,Ac ⟨by omega,by omega⟩,Qq8,hg,h1',Qq5,if_pos Z]
    ·exact⟨fun _=>⟨x,QzJ ..,h2.1 Z⟩,fun _=>by omega⟩
   | false=>
    obtain⟨z,h3,c⟩:=ih (i+1) hd';refine⟨z,?_,?_⟩
    ·rw [<- h3];refine Be ?_;unfold Bq;simp only;rw [if_pos U,Ac ⟨by omega,by omega⟩,Qq8,hg,h1',Qq5,if_neg QkD,Ac (by constructor <;> omega)]
     rfl
    ·rw [c]
     constructor
     ·rintro⟨k,hk,hc⟩;exact⟨k,QzA _ hk,hc⟩
     ·rintro⟨k,hk,hc⟩
      rcases Qzy.1 hk with rfl | hk
      ·have:=h2.2 hc;cases this
      ·exact⟨k,hk,hc⟩
 obtain⟨z,a,h2⟩:=key B 0 Z;rw [show run (Bq B) ((h.1,h.2).1,(h.1,h.2).2,d,0)=_ from a,Qq5];exact⟨_,Z,by rw [decide_eq_true_eq];exact h2⟩
theorem TI{n:Int}{es:HM}(hx:XOk es)(b:List UInt8){d:Int}(hd:1<=d){H:List Mv}(hH:H.length<=1000000):∀ (r:List Mv) (j:Nat) (out:List Int),H.drop j=r->j<=H.length->out.length<=j->Ahb out->(∀ y∈out,∀ h∈r,y<=h.1)->r.Pairwise (fun h k=>h.1<=k.1)->(∀ h∈r,-1000000<=h.2/\h.2<=1000000)->
  ∃ L,run (Dx (n,es) b H) (out,d,(j:Int))=some (L,(0,0))/\Ahb L/\L.length<=H.length/\∀ x,x∈L↔x∈out\/∃ h∈r,h.1=x/\∃ k∈BV [] b es,Cl k h d
 | [],j,out,hdr,hjl,ho,hi,_,_,_=>by
  have hlen:=Of hdr;refine⟨out,AP (m:=some (out,(0,0))) ?_,hi,by omega,by simp⟩
  ·unfold Dx Ho;simp only;rw [if_neg U]
 | h::r,j,out,hdr,hjl,ho,hi,hy,hs,hr=>by
  obtain⟨hg,hd',hlt⟩:=MI hdr;have hb:=hr h (QzJ ..);have hw:=hx.AaK b;obtain⟨c,s,h2⟩:=W7 hw.1 hw.2 hb hd;have h1':BH (BV [] b es) (h.1,h.2) d=some (c,(h.1,h.2),d):=s;have g:=Qz0.1 hs;have i:(j:Int)+1=((j+1:Nat):Int):=by omega
  -- the list behind this round
  by_cases hadd:c=true/\h.1∉out
  ·have hi':Ahb (out++[h.1]):=Qja.2 ⟨hi,QkA _ _,fun y f z hz=>by
    rw [Qzf.1 hz];have h3:=hy y f h (QzJ ..);have t:y≠h.1:=fun e=>hadd.2 (e ▸ f);omega⟩
   obtain⟨L,l,o,p,q⟩:=TI hx b hd hH r (j+1) (out++[h.1]) hd' hlt (by simp;omega) hi' (fun y f k hk=>by
    rcases QzQ.1 f with f | f
    ·exact hy y f k (QzA _ hk)
    ·rw [Qzf.1 f];exact g.1 k hk) g.2 (fun k hk=>hr k (QzA _ hk))
   refine⟨L,?_,o,p,fun x=>?_⟩
   ·rw [<- l];refine Be ?_;unfold Dx;simp only;rw [if_pos U,Ac ⟨by omega,by omega⟩,Qq8,hg,PN (by have:=hx.len;omega) b hx.inc,Qq5,h1',Qq5,if_pos hadd.1,SX U,Qq5,decide_eq_false hadd.2,if_pos Qqc,Ac (by rw [QxC];constructor <;> omega),Ac (by constructor <;> omega),i]
   ·rw [q,QzQ,Qzf]
    constructor
    ·rintro((a | a) | ⟨k,hk,a⟩)
     ·exact .inl a
     ·exact .inr ⟨h,QzJ ..,a.symm,h2.1 hadd.1⟩
     ·exact .inr ⟨k,QzA _ hk,a⟩
    ·rintro(a | ⟨k,hk,a⟩)
     ·exact .inl (.inl a)
     ·rcases Qzy.1 hk with rfl | hk
      ·exact .inl (.inr a.1.symm)
      ·exact .inr ⟨k,hk,a⟩
  ·obtain⟨L,l,o,p,q⟩:=TI hx b hd hH r (j+1) out hd' hlt U hi (fun y f k hk=>hy y f k (QzA _ hk)) g.2 (fun k hk=>hr k (QzA _ hk));refine⟨L,?_,o,p,fun x=>?_⟩
   ·rw [<- l];refine Be ?_;unfold Dx;simp only;rw [if_pos U,Ac ⟨by omega,by omega⟩,Qq8,hg,PN (by have:=hx.len;omega) b hx.inc,Qq5,h1',Qq5]
    cases c with
    | false=>rw [if_neg QkD,Ac (by constructor <;> omega),i]
    | true=>
     have hin:h.1∈out:=Decidable.byContradiction fun hn=>hadd ⟨Z,hn⟩;rw [if_pos Z,SX U,Qq5,decide_eq_true hin,if_neg Qqc,Ac (by constructor <;> omega),i]
   ·rw [q]
    constructor
    ·rintro(a | ⟨k,hk,a⟩)
     ·exact .inl a
     ·exact .inr ⟨k,QzA _ hk,a⟩
    ·rintro(a | ⟨k,hk,a⟩)
     ·exact .inl a
     ·rcases Qzy.1 hk with rfl | hk
      ·have hc:c=true:=h2.2 a.2;have hin:k.1∈out:=Decidable.byContradiction fun hn=>hadd ⟨hc,hn⟩;exact .inl (a.1 ▸ hin)
      ·exact .inr ⟨k,hk,a⟩
def AaL(a b:List UInt8)(d:Int):Prop:=wf a=(0,0)/\wf b=(0,0)/\1<=d/\d<=2048
def AhH(a b:List UInt8):Int×Int:=if wf a=(0,0) then if wf b=(0,0) then(4,-3) else((wf b).1,-2) else wf a
theorem Ahc{n:Int}{items:List (List UInt8)}(hn:items.length<=64)(ht:∀ t∈items,t.length<=2048)(a b:List UInt8)(d:Int):
  (AaL a b d->∃ L,Ff (n,E items) a b d=some (L,(0,0))/\Ahb L/\L.length<=1000000/\∀ x,x∈L↔Uf items a b d x)/\(¬ AaL a b d->Ff (n,E items) a b d=some ([],AhH a b)):=by
 have hx:=XOk.Ajr hn ht;unfold Ff;rw [Oc,Qq5]
 constructor
 ·rintro⟨c,h2,h3,l⟩;have hw:=hx.AaK a;obtain⟨L,m,o,q,p⟩:=TI (n:=n) hx b h3 hw.1 (BV [] a (E items)) 0 [] Z (Qz5 _) (Qzx _) List.Pairwise.nil Qqd (by rw [Xs];exact W6 items a) hw.2;refine⟨L,?_,o,by omega,fun x=>?_⟩
  ·rw [if_pos (by rw [c];exact⟨Z,Z⟩),Oc,Qq5,if_pos (by rw [h2];exact⟨Z,Z⟩),if_neg U,if_neg U];simp only;rw [PN (by have:=hx.len;omega) a hx.inc,Qq5];exact m
  ·rw [p];unfold Uf
   constructor
   ·rintro(e | ⟨h,hh,rfl,k,hk,f,g,i,j⟩)
    ·cases e
    ·rw [Xs,MJ] at hh hk;exact⟨h.2,k.2,hh,by rw [f];exact hk,g,i,j⟩
   ·rintro⟨k,k',e,f,g,i,j⟩;refine .inr ⟨(x,k),by rw [Xs,MJ];exact e,Z,(x,k'),by rw [Xs,MJ];exact f,Z,g,i,j⟩
 ·intro h;unfold AhH
  by_cases c:wf a=(0,0)
  ·rw [if_pos (by rw [c];exact⟨Z,Z⟩),if_pos c,Oc,Qq5]
   by_cases h2:wf b=(0,0)
   ·rw [if_pos (by rw [h2];exact⟨Z,Z⟩),if_pos h2]
    by_cases h3:d<1
    ·rw [if_pos h3];rfl
    ·rw [if_neg h3]
     by_cases l:2048<d
     ·rw [if_pos l];rfl
     ·exact absurd ⟨c,h2,by omega,by omega⟩ h
   ·rw [if_neg (fun x=>h2 (Prod.ext x.1 x.2)),if_neg h2];rfl
  ·rw [if_neg (fun x=>c (Prod.ext x.1 x.2)),if_neg c]
/- The reference. -/
end Go.Proofs.YtekmbcbgknmhiaaGreatDoor
end
noncomputable section
namespace Go.L
open Go
theorem Afs(c d:UInt8)(p l:List UInt8){k:Nat}(a:1<=k)(h2:k<=2):cls (c::p) (d::l)<k↔d.toNat<c.toNat\/d.toNat=c.toNat/\cls p l<k:=by
 have hle:cls p l<=2:=by unfold cls;split;omega;split <;> omega
 have hless:Op.bytesLess (d::l) (c::p)=true↔d.toNat<c.toNat\/d.toNat=c.toNat/\Op.bytesLess l p=true:=by
  rw [<- Ph,<- Ph];exact VI d c l p
 unfold cls at hle ⊢;rw [VH]
 by_cases hd:d=c
 ·subst hd;simp only [decide_true,Bool.true_and]
  by_cases hp:pre l p=true
  ·rw [if_pos hp,if_pos hp];simp
  ·rw [if_neg hp,if_neg hp]
   by_cases hl:Op.bytesLess l p=true
   ·rw [if_pos hl,if_pos (hless.2 (.inr ⟨Z,hl⟩))];simp
   ·rw [if_neg hl,if_neg (fun h=>by rcases hless.1 h with h | h;omega;exact hl h.2)];simp
 ·have hne:d.toNat≠c.toNat:=fun e=>hd (UInt8.toNat.inj e);rw [decide_eq_false hd,Bool.false_and,if_neg Qqc]
  by_cases hl:d.toNat<c.toNat
  ·rw [if_pos (hless.2 (.inl hl))];omega
  ·rw [if_neg (fun h=>by rcases hless.1 h with h | h;exact hl h;exact hne h.1)];omega
def OJ(a p:List UInt8)(k:Nat):Nat:=(Qzv (a.length+1)).countP fun q=>decide (cls p (a.drop q)<k)
theorem Ahd(a p:List UInt8)(k:Nat){r:Nat}(hr:r<(op a).length):cls p (a.drop (op a)[r])<k↔r<OJ a p k:=by
 have hasc:((op a).map fun x=>cls p (a.drop x)).Pairwise (·<=·):=by
  rw [Qkk];exact(T7 a).imp fun h=>Zo (of_decide_eq_true h)
 have h:=Rs _ k r hasc (by rw [Qzk];exact hr);rw [List.countP_map,(SO a).countP_eq] at h
 have hg:((op a).map fun x=>cls p (a.drop x)).getD r 0=cls p (a.drop (op a)[r]):=by
  rw [Qzq,Qxy,Qzw hr];rfl
 rw [hg] at h;exact h
theorem Aft(a p:List UInt8)(k:Nat):OJ a p k<=a.length+1:=by
 have:=Qju (p:=fun q=>decide (cls p (a.drop q)<k)) (l:=Qzv (a.length+1));rw [QxA] at this;exact this
theorem Wj(a p:List UInt8):OJ a p 1<=OJ a p 2:=List.countP_mono_left fun q _ h=>decide_eq_true (by have:=of_decide_eq_true h;omega)
theorem AbT(a:List UInt8):OJ a [] 1=0/\OJ a [] 2=a.length+1:=by
 have h:∀ q,cls [] (a.drop q)=1:=fun q=>by unfold cls;rw [pre_nil,if_pos Z]
 unfold OJ
 constructor
 ·exact List.countP_eq_zero.2 (fun q _=>by rw [h];decide)
 ·rw [List.countP_eq_length.2 (fun q _=>by rw [h];decide),QxA]
theorem Wk(a:List UInt8)(f:Nat->Bool)(g:Nat->Bool)(h:∀ r (hr:r<(op a).length),f r=g (op a)[r]):(Qzv (sym a).length).countP f=(Qzv (a.length+1)).countP g:=by
 rw [<- Xm a g];apply Qk7;intro r hr;have hr:r<(op a).length:=by rw [Fk,<- Fa];exact Qz7.1 hr
 rw [h r hr,opD hr]
def QT(s:List Int)(c:Int)(k:Nat):Nat:=(Qzv k).countP fun r=>decide (0<=s.getD r Qq2/\s.getD r Qq2<c)
def O4(s:List Int)(c:Int)(f k:Nat):Nat:=(Qzv k).countP fun r=>decide (s.getD r Qq2=c/\r<f)
theorem TJ{α:Type}(f g h:α->Bool)(e:∀ x,h x=(f x||g x))(d:∀ x,f x=true->g x=false):∀ l:List α,l.countP h=l.countP f+l.countP g
 | []=>rfl
 | x::l=>by
  rw [Qx3,Qx3,Qx3,TJ f g h e d l,e x]
  cases hf:f x with
  | false=>simp;omega
  | true=>rw [d x hf];simp;omega
theorem Ta(a p:List UInt8)(c:UInt8){k:Nat}(b:1<=k)(h2:k<=2):1+QT (sym a) (c.toNat:Int) (sym a).length+O4 (sym a) (c.toNat:Int) (OJ a p k) (sym a).length=OJ a (c::p) k:=by
 unfold QT O4
 rw [Wk a _ (fun q=>decide (1<=q/\I6 a q<(c.toNat:Int))) (fun r hr=>by rw [MX a hr];exact decide_eq_decide.2 (by rw [NC])),
  Wk a _ (fun q=>decide (I6 a q=(c.toNat:Int)/\cls p (a.drop q)<k)) (fun r hr=>by rw [MX a hr];exact decide_eq_decide.2 (by rw [Ahd a p k hr])),
  Nat.add_assoc,<- TJ _ _ (fun q=>decide (1<=q/\I6 a q<(c.toNat:Int))||decide (I6 a q=(c.toNat:Int)/\cls p (a.drop q)<k)) (fun _=>Z) (fun q h=>by
   have:=of_decide_eq_true h;exact decide_eq_false U)]
 have eb:OJ a (c::p) k=(Qzv a.length).countP (fun q=>decide (cls (c::p) (a.drop q)<k))+[a.length].countP (fun q=>decide (cls (c::p) (a.drop q)<k)):=by
  unfold OJ;rw [Qx2,QkQ]
 rw [eb]
 have d:(decide (1<=0/\I6 a 0<(c.toNat:Int))||decide (I6 a 0=(c.toNat:Int)/\cls p (a.drop 0)<k))=false:=by
  have:I6 a 0 = -1:=by unfold I6;rw [if_pos Z]
  rw [this,decide_eq_false U,decide_eq_false U];rfl
 rw [SP a.length (fun q=>decide (1<=q/\I6 a q<(c.toNat:Int))||decide (I6 a q=(c.toNat:Int)/\cls p (a.drop q)<k)) d]
 have e:(Qzv a.length).countP (fun q=>decide (1<=q+1/\I6 a (q+1)<(c.toNat:Int))||decide (I6 a (q+1)=(c.toNat:Int)/\cls p (a.drop (q+1))<k))=(Qzv a.length).countP (fun q=>decide (cls (c::p) (a.drop q)<k)):=by
  apply Qk7;intro q hq;have hq:=Qz7.1 hq;have hd:=Lz (a:=a) (q:=q+1) U U;rw [Qkx] at hd;rw [hd];simp only [Qxq,decide_eq_true_eq];rw [Afs c _ p _ b h2];unfold I6;rw [if_neg U,Qkx];omega
 have f:decide (cls (c::p) (a.drop a.length)<k)=true:=by
  rw [List.drop_length];have:cls (c::p) []=0:=by unfold cls;rw [SM];rfl
  rw [this];exact decide_eq_true U
 rw [e,Qjv,f,if_pos Z];omega
end Go.L
namespace Go.Proofs.YtekmbcbgknmhiaaGreatDoor
open Go Go.L
theorem Ahe{s:List Int}(hl:s.length<=2049)(j:∀ r,r<s.length->-1<=s.getD r Qq2){c:Int}(hc:0<=c)(f t:Nat):F9 s c (f:Int) (t:Int)=some (((1+QT s c s.length+O4 s c f s.length:Nat):Int),((1+QT s c s.length+O4 s c t s.length:Nat):Int)):=by
 have e:∀ k,QT s c k<=k:=fun k=>by have:=Qju (p:=fun r=>decide (0<=s.getD r Qq2/\s.getD r Qq2<c)) (l:=Qzv k);rw [QxA] at this;exact this
 have a:∀ f k,O4 s c f k<=k:=fun f k=>by have:=Qju (p:=fun r=>decide (s.getD r Qq2=c/\r<f)) (l:=Qzv k);rw [QxA] at this;exact this
 have s1:∀ k,QT s c (k+1)=QT s c k+if 0<=s.getD k Qq2/\s.getD k Qq2<c then 1 else 0:=fun k=>by
  unfold QT;rw [Qx2,QkQ,Qjv];simp only [decide_eq_true_eq]
 have g:∀ f k,O4 s c f (k+1)=O4 s c f k+if s.getD k Qq2=c/\k<f then 1 else 0:=fun f k=>by
  unfold O4;rw [Qx2,QkQ,Qjv];simp only [decide_eq_true_eq]
 refine DM (b:=Cx s c f t) (fun k=>(((1+QT s c k:Nat):Int),(O4 s c f k:Int),(O4 s c t k:Int),(k:Int))) s.length (fun k hk=>?_) ?_ 0
 ·have d:∀ x y:Nat,x<=5000->y<=5000->BR s c (t:Int) (O4 s c t k:Int) (k:Int) (x:Int) (y:Int)=some (.inl ((x:Int),(y:Int),(O4 s c t (k+1):Int),((k+1:Nat):Int))):=fun x y hx hy=>by
   unfold BR;have:=a t k;rw [Qq8,g t k]
   by_cases h:s.getD k Qq2=c/\k<t
   ·rw [if_pos U,if_pos h,Ac (by constructor <;> omega),Ac (by constructor <;> omega)];rfl
   ·rw [if_neg U,if_neg h,Ac (by constructor <;> omega)];rfl
  have m:=e k;have n:=a f k;have o:=j k hk;unfold Cx;simp only;rw [if_pos U,Ac U,Qq8,s1 k,g f k]
  by_cases i:s.getD k Qq2 = -1
  ·rw [if_pos i,d _ _ U U,if_neg U,if_neg U];rfl
  ·rw [if_neg i]
   by_cases h2:s.getD k Qq2<c
   ·rw [if_pos h2,Ac (by constructor <;> omega),show((1+QT s c k:Nat):Int)+1=((1+QT s c k+1:Nat):Int) by omega,d _ _ U U,if_pos U,if_neg U];rfl
   ·rw [if_neg h2,if_neg (show ¬ (0<=s.getD k Qq2/\s.getD k Qq2<c) by omega)]
    by_cases h3:s.getD k Qq2=c/\k<f
    ·rw [if_pos U,Ac (by constructor <;> omega),show(O4 s c f k:Int)+1=((O4 s c f k+1:Nat):Int) by omega,d _ _ U U,if_pos h3];rfl
    ·rw [if_neg U,d _ _ U U,if_neg h3];rfl
 ·have m:=e s.length;have n:=a f s.length;have o:=a t s.length;unfold Cx;simp only;rw [if_neg U];unfold Ev;rw [Ac (by constructor <;> omega),Ac (by constructor <;> omega)]
  rfl
theorem Tb{a p:List UInt8}(h:a.length<=2048)(hp:p.length<=64):∀ k,k<=p.length->
  ∃ f t:Nat,Gj (idx a) p ((OJ a (p.drop k) 1:Int),(OJ a (p.drop k) 2:Int),(k:Int) - 1)=some ((f:Int),(t:Int),(0,0))/\f<=t/\t<=a.length+1/\(f=t->OJ a p 1=OJ a p 2)/\(f<t->f=OJ a p 1/\t=OJ a p 2)
 | 0,_=>by
  refine⟨OJ a p 1,OJ a p 2,AP (b:=BU (idx a) p) (m:=some _) ?_,Wj a p,Aft a p 2,id,fun _=>⟨Z,Z⟩⟩;unfold BU;simp only;have:=Wj a p;rw [if_neg U,QxD];unfold EA;rw [show max (OJ a p 1:Int) (OJ a p 2:Int)=(OJ a p 2:Int) by omega]
 | k+1,hk=>by
  have hm:=Wj a (p.drop (k+1))
  by_cases hlt:OJ a (p.drop (k+1)) 1<OJ a (p.drop (k+1)) 2
  ·have hd:p.drop k=p.getD k Qq2::p.drop (k+1):=by
    have:=Lz (a:=p) (q:=k+1) U hk;rw [Qkx] at this;exact this
   have hb:BU (idx a) p ((OJ a (p.drop (k+1)) 1:Int),(OJ a (p.drop (k+1)) 2:Int),((k+1:Nat):Int) - 1)=some (.inl ((OJ a (p.drop k) 1:Int),(OJ a (p.drop k) 2:Int),(k:Int) - 1)):=by
    unfold BU;simp only;have c:(((k+1:Nat):Int) - 1).toNat=k:=by omega
    have d:(idx a).1=sym a:=Z;rw [if_pos U,Ac U,c,d,Ahe (by rw [Fa];omega) (fun r hr=>by rw [MX a (by rw [Fk,<- Fa];exact hr)];unfold I6;split <;> omega) U,Qq5,Ac (by constructor <;> omega),Ta a _ _ U U,Ta a _ _ U U,<- hd]
    congr 4;omega
   unfold Gj;rw [Be hb];exact Tb h hp k U
  ·have he:OJ a (p.drop (k+1)) 1=OJ a (p.drop (k+1)) 2:=by omega
   have hnone:∀ j,j<=k+1->OJ a (p.drop (k+1 - j)) 1=OJ a (p.drop (k+1 - j)) 2:=by
    intro j
    induction j with
    | zero=>intro _;exact he
    | succ j ih=>
     intro hj;have ih:=ih U
     have hd:p.drop (k+1 - (j+1))=p.getD (k+1 - (j+1)) Qq2::p.drop (k+1 - j):=by
      have:=Lz (a:=p) (q:=k+1 - j) U U;rw [show k+1 - (j+1)=k+1 - j - 1 by omega];exact this
     rw [hd,<- Ta a _ _ U U,<- Ta a _ _ U U,ih]
   have hz:=hnone (k+1) U;rw [Nat.sub_self,QxD] at hz;refine⟨OJ a (p.drop (k+1)) 1,OJ a (p.drop (k+1)) 1,AP (b:=BU (idx a) p) (m:=some _) ?_,Qzx _,Aft a _ 1,fun _=>hz,fun h=>absurd h U⟩;unfold BU;simp only;rw [if_neg U];unfold EA;rw [<- he,Int.max_self]
def pfF(p:List UInt8):Int×Int:=if p.length=0 then(10,-1) else if p.length<=64 then(0,0) else(3,-1)
theorem Ahf{a p:List UInt8}(h:a.length<=2048):∃ f t:Nat,EY (idx a) p=some ((f:Int),(t:Int),pfF p)/\f<=t/\t<=a.length+1/\(pfF p≠(0,0)->f=0/\t=0)/\(pfF p=(0,0)->(f=t->OJ a p 1=OJ a p 2)/\(f<t->f=OJ a p 1/\t=OJ a p 2)):=by
 unfold EY pfF
 by_cases c:p.length=0
 ·rw [if_pos U,if_pos c];exact⟨0,0,Z,Qzx _,Qz5 _,fun _=>⟨Z,Z⟩,fun e=>absurd e Qqc⟩
 ·rw [if_neg U,if_neg c]
  by_cases b:p.length<=64
  ·rw [if_neg U,if_pos b]
   have e:D0 (idx a).1=some ((a.length+1:Nat):Int):=by
    unfold D0;rw [show(idx a).1.length=a.length+1 from Fa a]
    congr 1;omega
   rw [e,Qq5,Ac (by constructor <;> omega)];obtain⟨f,t,d,g,i,j,k⟩:=Tb h b p.length (Qzx _);rw [List.drop_length,(AbT a).1,(AbT a).2] at d;exact⟨f,t,d,g,i,fun e=>absurd Z e,fun _=>⟨j,k⟩⟩
  ·rw [if_pos U,if_neg b];exact⟨0,0,Z,Qzx _,Qz5 _,fun _=>⟨Z,Z⟩,fun e=>absurd e Qqc⟩
end Go.Proofs.YtekmbcbgknmhiaaGreatDoor
end
noncomputable section
namespace Go.L
open Go
def Afu(a p:List UInt8)(k:Nat):List Nat:=(Qzv k).filter fun q=>pre (a.drop q) p
def occ(a p:List UInt8):List Int:=(Afu a p a.length).map fun q:Nat=>(q:Int)
theorem Ahg(p l:List UInt8):decide (cls p l<2)=(decide (cls p l<1)||pre l p):=by
 unfold cls
 by_cases hp:pre l p=true
 ·rw [if_pos hp,hp];decide
 ·rw [if_neg hp];have:pre l p=false:=by simpa using hp
  rw [this]
  split <;> decide
theorem Ahh{p l:List UInt8}:pre l p=decide (¬ cls p l<1/\cls p l<2):=by
 unfold cls
 by_cases hp:pre l p=true
 ·rw [if_pos hp,hp];decide
 ·rw [if_neg hp];have:pre l p=false:=by simpa using hp
  rw [this]
  split <;> decide
theorem Ahi{a p:List UInt8}(hp:p≠[]):pre (a.drop a.length) p=false:=by
 rw [List.drop_length]
 cases p with
 | nil=>exact absurd Z hp
 | cons c p=>exact SM c p
theorem AcS{a p:List UInt8}(hp:p≠[]):Afu a p (a.length+1)=Afu a p a.length:=by
 unfold Afu;rw [Qx2,List.filter_append]
 have:[a.length].filter (fun q=>pre (a.drop q) p)=[]:=by
  rw [List.filter_cons_of_neg (by rw [Ahi hp];decide)];rfl
 rw [this,QzX]
theorem Ahj{a p:List UInt8}(hp:p≠[]):OJ a p 2=OJ a p 1+(occ a p).length:=by
 have h:OJ a p 2=OJ a p 1+(Qzv (a.length+1)).countP (fun q=>pre (a.drop q) p):=
  TJ _ _ _ (fun q=>Ahg p (a.drop q)) (fun q h=>by
   have:=of_decide_eq_true h;rw [Ahh];exact decide_eq_false U) _
 rw [h,List.countP_eq_length_filter]
 show _+(Afu a p (a.length+1)).length=_
 rw [AcS hp];unfold occ;rw [Qzk]
end Go.L
namespace Go.Proofs.YtekmbcbgknmhiaaGreatDoor
open Go Go.L
theorem Ajs{p:List UInt8}(h:pfF p=(0,0)):p≠[]/\p.length<=64:=by
 unfold pfF at h
 split at h
 ·exact absurd h Qqc
 ·rename_i a;refine⟨fun e=>a (by rw [e];rfl),?_⟩
  split at h
  ·assumption
  ·exact absurd h Qqc
theorem Afv{a p:List UInt8}(h:a.length<=2048):E0 (idx a) p=some (if pfF p=(0,0) then((occ a p).length:Int) else 0,pfF p):=by
 obtain⟨f,t,c,g,i,d,e⟩:=Ahf (p:=p) h;unfold E0
 show Qq4 (EY (idx a) p) _=_
 rw [c,Qq5,Ac (by show Bz ((t:Int) - (f:Int));constructor <;> omega)]
 by_cases hp:pfF p=(0,0)
 ·rw [if_pos hp];obtain⟨r1,r2⟩:=e hp;have hb:=Ahj (a:=a) (Ajs hp).1
  have:(t:Int) - (f:Int)=((occ a p).length:Int):=by
   rcases Qxw f t with b | b
   ·have:=r2 b;omega
   ·have:=r1 U;omega
  show some ((t:Int) - (f:Int),pfF p)=_
  rw [this]
 ·rw [if_neg hp];obtain⟨rfl,rfl⟩:=d hp
  rfl
end Go.Proofs.YtekmbcbgknmhiaaGreatDoor
end
noncomputable section
namespace Go.L
def Mk(L:List Bool)(n:Nat)(Q:Int->Prop):Prop:=L.length=n/\∀ i:Nat,i<n->(L.getD i Qq2=true↔Q i)
theorem Mk.set{L:List Bool}{n:Nat}{Q:Int->Prop}(h:Mk L n Q){at':Nat}(ha:at'<n)(c:Bool):Mk (L.set at' (L.getD at' Qq2||c)) n (fun z=>Q z\/(c=true/\z=(at':Int))):=by
 refine⟨by rw [List.length_set];exact h.1,fun i hi=>?_⟩;rw [Qzq,List.getElem?_set]
 by_cases he:at'=i
 ·subst he;rw [if_pos Z,if_pos (by rw [h.1];exact ha)];have:=h.2 at' ha
  show(L.getD at' Qq2||c)=true↔_
  rw [Qxq,this];exact⟨fun h=>h.imp id fun h=>⟨h,Z⟩,fun h=>h.imp id fun h=>h.1⟩
 ·rw [if_neg he,<- Qzq,h.2 i hi];exact⟨.inl,fun h=>h.resolve_right fun h=>he U⟩
def collected(f:(List UInt8×Int×Int×List UInt8)×List Int->Bool)(es:List ((List UInt8×Int×Int×List UInt8)×List Int)):List Int:=(es.filter f).flatMap (·.2)
theorem W8{f:(List UInt8×Int×Int×List UInt8)×List Int->Bool}{es:List ((List UInt8×Int×Int×List UInt8)×List Int)}{z:Int}:z∈collected f es↔∃ e∈es,f e=true/\z∈e.2:=by
 unfold collected;rw [List.mem_flatMap]
 constructor
 ·rintro⟨e,he,hz⟩;obtain⟨a,h2⟩:=List.mem_filter.1 he;exact⟨e,a,h2,hz⟩
 ·rintro⟨e,a,h2,hz⟩;exact⟨e,List.mem_filter.2 ⟨a,h2⟩,hz⟩
theorem Oi(f:(List UInt8×Int×Int×List UInt8)×List Int->Bool){es:List ((List UInt8×Int×Int×List UInt8)×List Int)}{i:Nat}(h:i<es.length):collected f (es.take (i+1))=collected f (es.take i)++if f (es.getD i Qq2) then(es.getD i Qq2).2 else[]:=by
 unfold collected;rw [QxX,Qzw h,List.filter_append,List.flatMap_append]
 congr 1
 have e:es.getD i Qq2=es[i]:=by simp [Qzq,Qzw h]
 rw [e];simp only [Qjb,List.filter_cons,List.filter_nil]
 by_cases hf:f es[i]=true
 ·simp [hf]
 ·simp [hf]
theorem HE(f:(List UInt8×Int×Int×List UInt8)×List Int->Bool):∀ {es:List ((List UInt8×Int×Int×List UInt8)×List Int)},(∀ e∈es,e.2.length<=64)->(collected f es).length<=64 * es.length
 | [],_=>by simp [collected]
 | e::es,h=>by
  have a:=h e (.head _);have h2:=HE f (es:=es) fun x hx=>h x (.tail _ hx);unfold collected at h2 ⊢;rw [List.filter_cons]
  split
  ·rw [Qz6,Qzu,Qzj];omega
  ·rw [Qzj];omega
end Go.L
namespace Go.Proofs.YtekmbcbgknmhiaaGreatDoor
open Go Go.L
def pmE(pat:List UInt8)(e:(List UInt8×Int×Int×List UInt8)×List Int):Bool:=fits (col (sl pat)) (sl e.1.1)
def qmE(pat:List UInt8)(lo hi:Int)(e:(List UInt8×Int×Int×List UInt8)×List Int):Bool:=pmE pat e&&decide (e.1.2.1=1/\lo<=e.1.2.2.1/\e.1.2.2.1<=hi)
theorem Wl(l:List Int):(Go.E.M9 l).length=l.length:=List.length_mergeSort _
theorem AaN{n:Int}{es:List En}{pat:List UInt8}(hp:pat.length<900)(hl:es.length<=1000000)(a:∀ e∈es,e.2.length<=64)(hpath:∀ e∈es,e.1.1.length<=330):Fe (n,es) pat=some (QR (collected (pmE pat) es)):=by
 unfold Fe GZ;refine DM (fun i=>(collected (pmE pat) (es.take i),((i:Nat):Int))) es.length (fun i hi=>?_) ?_ 0
 ·have hlen:=HE (pmE pat) (es:=es.take i) fun e he=>a e (List.mem_of_mem_take he);rw [QzK] at hlen;have b:=a _ (Ew hi);have h2:=hpath _ (Ew hi);have hm:DV pat (es.getD i Qq2).1.1=some (pmE pat (es.getD i Qq2)):=Sf hp U;unfold DC Hm;dsimp only;rw [if_pos U,Ac U,Qq8,Qq5,if_pos Z,hm,Qq5,Oi _ hi]
  by_cases hf:pmE pat (es.getD i Qq2)=true
  ·rw [if_pos hf,if_pos hf,Ac (by unfold Go.E.HK;omega),Ac (by unfold Bz;omega)]
   rfl
  ·rw [if_neg hf,if_neg hf,Ac (by unfold Bz;omega),QzX]
   rfl
 ·have hlen:=HE (pmE pat) a;unfold DC DP;dsimp only;rw [if_neg U,Qx4,Ac U,Ac (by rw [Wl];omega)]
  rfl
theorem Ahk(e:En)(lo hi:Int):DG e lo hi=some (decide (e.1.2.1=1/\lo<=e.1.2.2.1/\e.1.2.2.1<=hi),lo,hi):=by
 unfold DG
 by_cases a:e.1.2.1=1
 ·by_cases h2:lo<=e.1.2.2.1
  ·rw [if_pos a,if_pos h2];simp [a,h2]
  ·rw [if_pos a,if_neg h2];simp [a,h2]
 ·rw [if_neg a];simp [a]
theorem ZM{n:Int}{es:List En}{pat:List UInt8}{lo hi:Int}(hp:pat.length<900)(hl:es.length<=1000000)(a:∀ e∈es,e.2.length<=64)(hpath:∀ e∈es,e.1.1.length<=330):DQ (n,es) pat lo hi=some (QR (collected (qmE pat lo hi) es),lo,hi):=by
 unfold DQ F0;refine DM (fun i=>(collected (qmE pat lo hi) (es.take i),lo,hi,((i:Nat):Int))) es.length (fun i hi'=>?_) ?_ 0
 ·have hlen:=HE (qmE pat lo hi) (es:=es.take i) fun e he=>a e (List.mem_of_mem_take he);rw [QzK] at hlen;have b:=a _ (Ew hi');have h2:=hpath _ (Ew hi');have hm:DV pat (es.getD i Qq2).1.1=some (pmE pat (es.getD i Qq2)):=Sf hp U;have hn:DG (((es.getD i Qq2).1.1,(es.getD i Qq2).1.2.1,(es.getD i Qq2).1.2.2.1,(es.getD i Qq2).1.2.2.2),(es.getD i Qq2).2) lo hi=_:=Ahk (es.getD i Qq2) lo hi;unfold CU;dsimp only;rw [if_pos U,Ac U,Qq8,hn,Qq5,Oi _ hi'];have hqe:qmE pat lo hi (es.getD i Qq2)=(pmE pat (es.getD i Qq2)&&decide ((es.getD i Qq2).1.2.1=1/\lo<=(es.getD i Qq2).1.2.2.1/\(es.getD i Qq2).1.2.2.1<=hi)):=Z;rw [hqe]
  by_cases hq:(es.getD i Qq2).1.2.1=1/\lo<=(es.getD i Qq2).1.2.2.1/\(es.getD i Qq2).1.2.2.1<=hi
  ·rw [decide_eq_true hq,if_pos Z,hm,Qq5,Bool.and_true]
   by_cases hf:pmE pat (es.getD i Qq2)=true
   ·rw [if_pos hf,if_pos hf,Ac (by unfold Go.E.HK;omega),Ac (by unfold Bz;omega)]
    rfl
   ·rw [if_neg hf,if_neg hf,Ac (by unfold Bz;omega),QzX]
    rfl
  ·rw [decide_eq_false hq,Bool.and_false,if_neg QkD,if_neg QkD,Ac (by unfold Bz;omega),QzX]
   rfl
 ·have hlen:=HE (qmE pat lo hi) a;unfold CU Dh;dsimp only;rw [if_neg U,Qx4,Ac U,Ac (by rw [Wl];omega)]
  rfl
theorem find_eq{n:Int}{es:List En}{pat:List UInt8}(hp:(pf pat).1=0)(hl:es.length<=1000000)(a:∀ e∈es,e.2.length<=64)(hpath:∀ e∈es,e.1.1.length<=330):Fz (n,es) pat=some (QR (collected (pmE pat) es),(0,0)):=by
 obtain⟨b,h2⟩:=Ys pat hp;unfold Fz;rw [Ro,Qq5,b,if_pos ⟨Z,Z⟩,AaN U hl a hpath]
 rfl
theorem Ahl{n:Int}{es:List En}{pat:List UInt8}{lo hi:Int}(hp:(pf pat).1=0)(hlo : ¬ hi<lo)(hl:es.length<=1000000)(a:∀ e∈es,e.2.length<=64)(hpath:∀ e∈es,e.1.1.length<=330):Ey (n,es) pat lo hi=some (QR (collected (qmE pat lo hi) es),(0,0)):=by
 obtain⟨b,h2⟩:=Ys pat hp;unfold Ey;rw [Ro,Qq5,b,if_pos ⟨Z,Z⟩,if_neg hlo,ZM U hl a hpath]
 rfl
end Go.Proofs.YtekmbcbgknmhiaaGreatDoor
end
noncomputable section
namespace Go.Proofs.YtekmbcbgknmhiaaGreatDoor
open Go Go.L
theorem AbU:∀ {l:List Int} {lo n:Int},l.Pairwise (fun a b=>a<b)->(∀ z∈l,lo<=z/\z<n)->lo<=n->(l.length:Int)<=n - lo
 | [],lo,n,_,_,h=>by simp;omega
 | a::l,lo,n,hp,hz,h=>by
  obtain⟨c,d⟩:=Qz0.1 hp;have ha:=hz a (.head _);have:=AbU (lo:=a+1) (n:=n) d (fun z hzz=>⟨by have:=c z hzz;omega,(hz z (.tail _ hzz)).2⟩) U;simp only [Qzj];omega
theorem GI.few{n:Int}{es:List En}(h:GI n es):∀ e∈es,e.2.length<=64:=fun e he=>by
 have:=AbU (lo:=0) (n:=n) (h.ev e he).inc (h.ev e he).items h.n0;have:=h.n64;omega
def tmE(pat dat:List UInt8)(e:En):Bool:=pmE pat e&&decide (e.1.2.1=2/\e.1.2.2.2=dat)
theorem Afw(e:En)(dat:List UInt8):Ez e dat=some (decide (e.1.2.1=2/\e.1.2.2.2=dat),dat):=by
 unfold Ez
 by_cases a:e.1.2.1=2
 ·rw [if_pos a];simp [a]
 ·rw [if_neg a];simp [a]
theorem ZN{n:Int}{es:List En}{pat dat:List UInt8}(hp:pat.length<900)(hl:es.length<=1000000)(a:∀ e∈es,e.2.length<=64)(hpath:∀ e∈es,e.1.1.length<=330):DR (n,es) pat dat=some (QR (collected (tmE pat dat) es),dat):=by
 unfold DR F1;refine DM (fun i=>(collected (tmE pat dat) (es.take i),dat,((i:Nat):Int))) es.length (fun i hi'=>?_) ?_ 0
 ·have hlen:=HE (tmE pat dat) (es:=es.take i) fun e he=>a e (List.mem_of_mem_take he);rw [QzK] at hlen;have b:=a _ (Ew hi');have h2:=hpath _ (Ew hi');have hm:DV pat (es.getD i Qq2).1.1=some (pmE pat (es.getD i Qq2)):=Sf hp U;have hn:Ez (((es.getD i Qq2).1.1,(es.getD i Qq2).1.2.1,(es.getD i Qq2).1.2.2.1,(es.getD i Qq2).1.2.2.2),(es.getD i Qq2).2) dat=_:=Afw (es.getD i Qq2) dat;have hqe:tmE pat dat (es.getD i Qq2)=(pmE pat (es.getD i Qq2)&&decide ((es.getD i Qq2).1.2.1=2/\(es.getD i Qq2).1.2.2.2=dat)):=Z;unfold CV;dsimp only;rw [if_pos U,Ac U,Qq8,hn,Qq5,Oi _ hi',hqe]
  by_cases hq:(es.getD i Qq2).1.2.1=2/\(es.getD i Qq2).1.2.2.2=dat
  ·rw [decide_eq_true hq,if_pos Z,hm,Qq5,Bool.and_true]
   by_cases hf:pmE pat (es.getD i Qq2)=true
   ·rw [if_pos hf,if_pos hf,Ac (by unfold Go.E.HK;omega),Ac (by unfold Bz;omega)]
    rfl
   ·rw [if_neg hf,if_neg hf,Ac (by unfold Bz;omega),QzX]
    rfl
  ·rw [decide_eq_false hq,Bool.and_false,if_neg QkD,if_neg QkD,Ac (by unfold Bz;omega),QzX]
   rfl
 ·have hlen:=HE (tmE pat dat) a;unfold CV Di;dsimp only;rw [if_neg U,Qx4,Ac U,Ac (by rw [Wl];omega)]
  rfl
theorem Afx{n:Int}{es:List En}{pat dat:List UInt8}(hp:(pf pat).1=0)(hd:dat.length<=4000)(hl:es.length<=1000000)(a:∀ e∈es,e.2.length<=64)(hpath:∀ e∈es,e.1.1.length<=330):F2 (n,es) pat dat=some (QR (collected (tmE pat dat) es),(0,0)):=by
 obtain⟨b,h2⟩:=Ys pat hp;unfold F2;rw [Ro,Qq5,b,if_pos ⟨Z,Z⟩,if_neg U,ZN U hl a hpath]
 rfl
def QU(l:List (List UInt8×Pv)):LIB:=(((l.length:Int),E (l.map Qq6)),((l.length:Int),Pp (ID (PQ 0 (l.map QzZ)) [])),l.map fun d=>idx d.1)
theorem AaO{l:List (List UInt8×Pv)}(hl:l.length<=64)(hs:∀ d∈l,Sd d)(ht:∀ d∈l,d.1.length<=2048){r:LIB×(Int×Int)}(hr:ER (l.map QzZ) (l.map Qq6) (l.map fun d=>idx d.1)=some r):(r.2.1=0/\W5 (l.map QzZ)/\r.1=QU l\/r.2.1≠0/\r.1=Sh):=by
 have hlm:(l.map Qq6).length=l.length:=Qzk ..;have hlv:(l.map QzZ).length=l.length:=Qzk ..;have ht':∀ t∈l.map Qq6,t.length<=2048:=fun t ht'=>by obtain⟨d,hd,rfl⟩:=Qz8.1 ht';exact ht d hd
 have i:ND 0 (l.map Qq6)=none:=Wg 0 _ ht';have hw:=Z5 U ht' i;obtain⟨s,hsb,h3⟩:=ZL (a:=l.map QzZ) (fun v hv=>by obtain⟨d,hd,rfl⟩:=Qz8.1 hv;exact(hs d hd).2)
 have fault:∀ (p:List (((List Int))×(List Int)×(List Int))) (a b c e:Int) (f:List ((List UInt8)×(List (Int×Int)))) (g:List (((List UInt8)×Int×Int×(List UInt8))×(List Int))),a≠0->Ei p a b c f e g=some r->r.2.1≠0/\r.1=Sh:=fun p a b c e f g ha h=>by
  unfold Ei Cn at h;rw [if_neg (fun x=>ha x.1)] at h
  cases h
  exact⟨by decide,Z⟩
 unfold ER at hr;rw [hw] at hr
 by_cases hbig:131072<gs (RO (((l.map Qq6).length:Int),E (l.map Qq6)))
 ·rw [if_pos hbig,Qq5,if_neg (fun x=>by cases x.1)] at hr;exact .inr (fault _ _ _ _ _ _ _ Qqc hr)
 ·rw [if_neg hbig,Qq5,if_pos ⟨Z,Z⟩,hsb,Qq5] at hr
  rcases h3 with ⟨k,rfl⟩ | ⟨k,j,f,hj,hf,m,hvj,rfl⟩ | ⟨k,hv,rfl⟩
  ·omega
  ·exact .inr (fault _ _ _ _ _ _ _ m hr)
  ·by_cases hb:16384<(AbL ((l.map QzZ).length:Int) (Pp (ID (PQ 0 (l.map QzZ)) []))).length
   ·unfold AaG at hr;rw [if_pos hb] at hr;exact .inr (fault _ _ _ _ _ _ _ Qqc hr)
   ·unfold AaG at hr;rw [if_neg hb] at hr;unfold Ei at hr;rw [if_pos ⟨Z,Z⟩] at hr
    cases hr
    refine .inl ⟨Z,hv,?_⟩;unfold QU;rw [hlm,hlv]
theorem ZO{l:List (List UInt8×Pv)}(hs:∀ d∈l,Sd d):∃ r,Jr l=some r/\(r.2.1=0/\l.length<=64/\(∀ d∈l,d.1.length<=2048)/\W5 (l.map QzZ)/\r.1=QU l\/r.2.1≠0/\r.1=Sh):=by
 unfold Jr
 by_cases h:64<l.length
 ·rw [if_pos U];exact⟨(Sh,(2,-1)),Z,.inr ⟨(show(2:Int)≠0 by decide),Z⟩⟩
 ·rw [if_neg U];obtain⟨r,a,h2⟩:=Wh (l:=l) U hs l.length 0 U Qqd;refine⟨r,a,?_⟩
  rcases h2 with ⟨ht,h2⟩ | h2
  ·exact(AaO U hs ht h2).imp (fun x=>⟨x.1,by omega,ht,x.2⟩) id
  ·exact .inr h2
theorem AcT(l:List (Int×Int))(hl:l.length<=1000000):HC l=some (l.map Qq6):=by
 unfold HC K2;refine DM (fun i=>((l.take i).map Qq6,((i:Nat):Int))) l.length (fun i hi=>?_) ?_ 0 (hi:=(by omega))
 ·have hg:l.getD ((i:Int)).toNat Qq2=l[i]:=by rw [Qq8,Qzq,Qzw hi];rfl
  unfold Hc;simp only;rw [if_pos U,Ac U,hg,Ac (by unfold Go.E.HK;simp only [Qzk,QzK,Qzj,Qze];omega),Ac (by unfold Bz;omega),<- List.take_append_getElem hi,Qxf]
  rfl
 ·unfold Hc Jc;simp only;rw [if_neg U,Qxk (Qzx _)]
theorem ZP{L:LIB}{q:Qv}{a:List (List UInt8)}(hp:L.2.2=a.map idx)(ha:a.length<=64)(ht:∀ t∈a,t.length<=2048):∀ (k i:Nat) (out:List Int),i+k=a.length->out.length<=i->(∀ x∈out,0<=x/\x<(a.length:Int))->
  ∃ r,FJ L q (out,(i:Int))=some r/\r.length<=a.length/\∀ x∈r,0<=x/\x<(a.length:Int)
 | 0,i,out,h,ho,hr=>by
  refine⟨out,AP (m:=some out) ?_,by omega,hr⟩;unfold Dm B1;simp only;rw [hp,Qzk,if_neg U]
 | k+1,i,out,h,ho,hr=>by
  have hi:i<a.length:=by omega
  have hg:L.2.2.getD ((i:Int)).toNat Qq2=idx a[i]:=by
   rw [hp,Qq8,Qzq,Qxy,Qzw hi]
   rfl
  obtain⟨c,hc⟩:∃ c,E0 ((idx a[i]).1,(idx a[i]).2.1,(idx a[i]).2.2) q.f.2.2.2.1=some c:=⟨_,Afv (ht _ (Qxj hi))⟩
  have hb:∃ out',Dm L q (out,(i:Int))=some (.inl (out',((i+1:Nat):Int)))/\out'.length<=i+1/\∀ x∈out',0<=x/\x<(a.length:Int):=by
   unfold Dm;simp only;rw [hg,hc,hp,Qzk,if_pos U,Ac U,Qq5]
   by_cases b:(0:Int)<c.1
   ·refine⟨out++[(i:Int)],?_,by simp;omega,fun x hx=>?_⟩
    ·rw [if_pos b,Ac (by unfold Go.E.HK;simp only [Qzj,Qze];omega),Ac (by unfold Bz;omega)]
     rfl
    ·rcases QzQ.1 hx with hx | hx
     ·exact hr x hx
     ·obtain rfl:=Qzf.1 hx;omega
   ·refine⟨out,?_,by omega,hr⟩;rw [if_neg b,Ac (by unfold Bz;omega)]
    rfl
  obtain⟨out',e,d,h2⟩:=hb;obtain⟨r,h3,g⟩:=ZP (q:=q) hp ha ht k (i+1) out' U d h2;unfold FJ at h3 ⊢;exact⟨r,by rw [Be e];exact h3,g⟩
theorem Afy{l:List (List UInt8×Pv)}(hl:l.length<=64)(hs:∀ d∈l,Sd d)(ht:∀ d∈l,d.1.length<=2048)(hv:W5 (l.map QzZ)){q:Qv}(hq:Sq q){d:Nat}(hvq:Vq (d+1) q)(y:q.f.1<8):
  ∃ items,Dc (QU l) q=some items/\items.length<=100000000/\∀ x∈items,0<=x/\x<(l.length:Int):=by
 obtain⟨hk,hF,hw,hp,hnt⟩:=O1 hvq.1;have hlm:(l.map Qq6).length=l.length:=Qzk ..;have hlv:(l.map QzZ).length=l.length:=Qzk ..;have ht':∀ t∈l.map Qq6,t.length<=2048:=fun t ht'=>by obtain⟨d,hd,rfl⟩:=Qz8.1 ht';exact ht d hd
 have hs':∀ v∈l.map QzZ,Sm 1048576 10 v:=fun v hv=>by obtain⟨d,hd,rfl⟩:=Qz8.1 hv;exact(hs d hd).2
 have hx:=XOk.Ajr (items:=l.map Qq6) U ht'
 have hhit:∀ w,∀ h∈BV [] w (E (l.map Qq6)),0<=h.1/\h.1<(l.length:Int):=fun w h hh=>by
  rw [Xs] at hh;have h2:=Jx 0 _ 2048 ht' _ (MJ.1 hh);simp only at h2;omega
 have hofh:∀ hs:List (Int×Int),hs.length<=1000000->(∀ h∈hs,0<=h.1/\h.1<(l.length:Int))->∃ items,HC hs=some items/\items.length<=100000000/\∀ x∈items,0<=x/\x<(l.length:Int):=fun hs i h2=>by
  refine⟨_,AcT hs i,by rw [Qzk];omega,fun x hx=>?_⟩;obtain⟨h,hh,rfl⟩:=Qz8.1 hx;exact h2 h hh
 obtain⟨hG,_⟩:=ZK U hv hs';rw [hlv] at hG;have hpath:∀ e∈Pp (ID (PQ 0 (l.map QzZ)) []),e.1.1.length<=330:=fun e he=>(hG.ev e he).path.1;have c:(pf q.f.2.2.1).1=0:=by rw [hp]
 have hcol:∀ f,(QR (collected f (Pp (ID (PQ 0 (l.map QzZ)) [])))).length<=100000000/\∀ x∈QR (collected f (Pp (ID (PQ 0 (l.map QzZ)) []))),0<=x/\x<(l.length:Int):=fun f=>by
  have i:=ZB (collected f (Pp (ID (PQ 0 (l.map QzZ)) [])));have h2:=HE f hG.few;have h3:=hG.len;refine⟨by omega,fun x hx=>?_⟩;have hx:=(Ru _).2 x |>.1 hx;obtain⟨e,he,_,hxe⟩:=W8.1 hx;exact(hG.ev e he).items x hxe
 unfold Dc QU;obtain h | h | h | h | h | h | h:q.f.1=1\/q.f.1=2\/q.f.1=3\/q.f.1=4\/q.f.1=5\/q.f.1=6\/q.f.1=7:=by omega
 ·have i:=(Nk hF).1 h;rw [if_pos h,Ac U]
  have hm:q.f.2.1.getD ((0:Int).toNat) Qq2∈q.f.2.1:=by
   show q.f.2.1.getD 0 Qq2∈_
   rw [Qzq,Qzw U];exact Qxj _
  have hf:=Afq (n:=(l.length:Int)) (by have:=hx.len;omega) hx.inc (q.f.2.1.getD ((0:Int).toNat) Qq2) (by have:=(hx.AaK (q.f.2.1.getD ((0:Int).toNat) Qq2)).1;omega);rw [if_pos (hw _ hm)] at hf
  show ∃ items,Qq4 (G0 ((l.length:Int),E (l.map Qq6)) _) _=_/\_
  rw [hf,Qq5];unfold FI B1;obtain⟨items,b,g⟩:=hofh _ (hx.AaK (q.f.2.1.getD ((0:Int).toNat) Qq2)).1 (hhit _);exact⟨items,by rw [b];rfl,g⟩
 ·rw [if_neg U,if_pos h];have hf:=AcR (n:=(l.length:Int)) hx q.f.2.1
  show ∃ items,Qq4 (Ef ((l.length:Int),E (l.map Qq6)) q.f.2.1) _=_/\_
  have key:∃ hs e,Ef ((l.length:Int),E (l.map Qq6)) q.f.2.1=some (hs,e)/\hs.length<=1000000/\∀ h∈hs,0<=h.1/\h.1<(l.length:Int):=by
   rw [hf]
   split
   ·exact⟨[],_,Z,by simp,by simp⟩
   ·split
    ·exact⟨[],_,Z,by simp,by simp⟩
    ·split
     ·exact⟨[],_,Z,by simp,by simp⟩
     ·refine⟨_,_,Z,?_,fun h hh=>hhit _ h (List.mem_filter.1 hh).1⟩;have:=(hx.AaK (q.f.2.1.getD 0 Qq2)).1;have:=List.length_filter_le (fun h=>decide (KY (E (l.map Qq6)) q.f.2.1 h)) (BV [] (q.f.2.1.getD 0 Qq2) (E (l.map Qq6)));omega
  obtain⟨hs,e,o,p,s⟩:=key;rw [o,Qq5];obtain⟨items,b,g⟩:=hofh _ p s;unfold B1;exact⟨items,by simp only;rw [b];rfl,g⟩
 ·have i:=(Nk hF).2.2.1 h;rw [if_neg U,if_neg U,if_pos h,Ac U,Ac U];have hf:=Ahc (n:=(l.length:Int)) (items:=l.map Qq6) U ht' (q.f.2.1.getD ((0:Int).toNat) Qq2) (q.f.2.1.getD ((1:Int).toNat) Qq2) q.f.2.2.2.2.1
  show ∃ items,Qq4 (Ff ((l.length:Int),E (l.map Qq6)) _ _ _) _=_/\_
  unfold B1
  by_cases hn:AaL (q.f.2.1.getD ((0:Int).toNat) Qq2) (q.f.2.1.getD ((1:Int).toNat) Qq2) q.f.2.2.2.2.1
  ·obtain⟨L,b,_,j,u⟩:=hf.1 hn;refine⟨L,by rw [b];rfl,by omega,fun x hx=>?_⟩;obtain⟨k,_,m,_⟩:=(u x).1 hx;have h2:=Jx 0 _ 2048 ht' _ m;simp only at h2;omega
  ·exact⟨[],by rw [hf.2 hn];rfl,by simp,by simp⟩
 ·rw [if_neg U,if_neg U,if_neg U,if_pos h];obtain⟨r,b,g,j⟩:=ZP (L:=QU l) (q:=q) (a:=l.map Qq6) (by unfold QU;simp) U ht' (l.map Qq6).length 0 [] U Qqd Qqd;rw [hlm] at g j;exact⟨r,b,by omega,j⟩
 ·rw [if_neg U,if_neg U,if_neg U,if_neg U,if_pos h];have hf:=find_eq (n:=(l.length:Int)) (pat:=q.f.2.2.1) c hG.len hG.few hpath
  show ∃ items,Qq4 (Fz ((l.length:Int),Pp (ID (PQ 0 (l.map QzZ)) [])) q.f.2.2.1) _=_/\_
  rw [hf];exact⟨_,Z,hcol _⟩
 ·rw [if_neg U,if_neg U,if_neg U,if_neg U,if_neg U,if_pos h]
  have hlo : ¬ q.f.2.2.2.2.2.1<q.f.2.2.2.2.1:=fun hc=>by
   unfold nt at hnt;rw [if_pos (.inr ⟨h,hc⟩)] at hnt
   cases hnt
  have hf:=Ahl (n:=(l.length:Int)) (pat:=q.f.2.2.1) c hlo hG.len hG.few hpath
  show ∃ items,Qq4 (Ey ((l.length:Int),Pp (ID (PQ 0 (l.map QzZ)) [])) q.f.2.2.1 _ _) _=_/\_
  rw [hf];exact⟨_,Z,hcol _⟩
 ·rw [if_neg U,if_neg U,if_neg U,if_neg U,if_neg U,if_neg U,if_pos h];have hd:=Yg hnt;have hf:=Afx (n:=(l.length:Int)) (pat:=q.f.2.2.1) (dat:=q.f.2.2.2.1) c U hG.len hG.few hpath
  show ∃ items,Qq4 (F2 ((l.length:Int),Pp (ID (PQ 0 (l.map QzZ)) [])) q.f.2.2.1 _) _=_/\_
  rw [hf];exact⟨_,Z,hcol _⟩
def fnd(L:LIB)(q:Qv)(i:Nat):Bool:=match Dc L q with
 | some items=>decide ((i:Int)∈items)
 | none=>false
theorem Ai2{l:List (List UInt8×Pv)}(hl:l.length<=64)(hs:∀ d∈l,Sd d)(ht:∀ d∈l,d.1.length<=2048)(hv:W5 (l.map QzZ)):Fnd (QU l) (fnd (QU l)):=fun d q hq hvq b=>by
 obtain⟨items,a,h2,h3⟩:=Afy hl hs ht hv hq hvq b;have hlen:(QU l).2.2.length=l.length:=Qzk ..;refine⟨items,a,h2,by rw [hlen];exact h3,fun i _=>?_⟩;unfold fnd;rw [a]
end Go.Proofs.YtekmbcbgknmhiaaGreatDoor
end
noncomputable section
namespace Go.Proofs.YtekmbcbgknmhiaaGreatDoor
open Go Go.E Go.RowKit Go.L
set_option maxHeartbeats 1000000
set_option maxRecDepth 10000
open _root_.Go.Proofs.Tryz
def Hr(a0:AaV)(a:Int):Option Int:=
 Qq4 (E3 a0 a) (fun b=>some b)
def IJ:Option Int:=
 some ((-1))
def I7(a0:AaV)(a1:AaV):Nat->Option ((Nat) ⊕ (Int)):=fun a=>
 if a<a0.length then Qq4 (E3 a1 ((Tt a0 a).1:Int)) (fun b=>if 0<=b then Qq7 Sum.inr (some ((a:Int))) else some (Sum.inl (a+(Tt a0 a).2))) else Qq7 Sum.inr IJ
def KD(a0:AaV)(a1:AaV)(s:Nat):Option Int:=Go.L.run (I7 a0 a1) s
def IK(a0:AaV)(a1:AaV):Option Int:=
 (KD a0 a1) (0:Nat)
def strings_IndexAny(a0:AaV)(a1:AaV):Option Int:=
 if a1=([]:AaV) then some ((-1)) else(if(a1.length:Int)=1 then AN (0<=(0:Int)/\(0:Int)<(a1.length:Int)) (if 128<=(IntKind.i32.wrap ((a1.getD (0:Int).toNat Qq2).toNat:Int)) then(Hr a0) (65533:Int) else(Hr a0) (IntKind.i32.wrap ((a1.getD (0:Int).toNat Qq2).toNat:Int))) else(if 8<(a0.length:Int) then none else(IK a0 a1)))
section
variable(w:World)(H:PH)(hH:Le H (hp w)) include hH
theorem R6{a0 a1:AaV}{r:Int}(h:strings_IndexAny a0 a1=some r):
  Qqv 167 [AaM a0,AaM a1] w (fun v w'=>v=No r):=by
 refine A1 55 [(0,(AaM a0)),(1,(AaM a1))] func167 Z fun hL=>AI 1 Z<|AB<|Bx 1 Z<|Ai (Nx Z Z)<|Ad<|AQ h ?_ ?_<;>intro ad h
 ·refine AI 1 Z<|Ay<|Aq ?_
  cases h
  refine Al Z ⟨hL.ext,Z⟩
 refine Ax<|As<|AB<|Bx 1 Z<|Ai (IP Z)<|A8 1 Z<|AQ h ?_ ?_<;>intro ae h
 ·refine Bx 1 Z<|A2 h fun af h=>Ai (NQ af)<|Ai (Lm Z)<|A8 1 Z<|B2 Int (fun b=>[(0,(AaM a0)),(5,.int .i32 b)]) (fun b wr=>Bb w [] wr/\(Hr a0) b=some r) ?_ ?_
  ·refine AI 2 Z<|AQ h ?_ ?_<;>intro o h
   ·refine Au<|Ar 1 Z<|AL<|AA _ ⟨hL,h⟩
   refine Ax<|AA _ ⟨hL,h⟩
  rintro b al ⟨e,h⟩;refine Bx 2 Z<|Aw h fun au q h=>AD e (JT _ _ (An e) q) fun av am s ag=>A8 1 Z<|Ay<|Aq ?_
  cases h
  refine Al Z ⟨s.ext,Z⟩
 refine Ax<|As<|B2 Unit (fun(_:Unit)=>[(0,(AaM a0)),(1,(AaM a1))]) (fun(_:Unit) wr=>Bb w [] wr/\(IK a0 a1)=some r) ?_ ?_
 ·refine Bx 1 Z<|Ai (IP Z)<|AD hL (Aed _ _ (An hL)) fun aw an t ah=>Ad<|AQ h ?_ ?_<;>intro u h
  ·refine Aj ?_
   cases h
  refine Ax<|AA () ⟨t,h⟩
 rintro _ ao ⟨x,h⟩;refine B2 Unit (fun(_:Unit)=>[]) (fun(_:Unit) wr=>Bb w [] wr/\IJ=some r) ?_ ?_
 ·refine Bx 1 Z<|YR Z x fun ax m y ai=>Ad<|A4 ?_;obtain⟨f,h⟩:=Ba h;refine B7 (Nat×Nat) (fun⟨a,n⟩=>[(1,(AaM a1)),(45,(Aad m))]) (fun⟨a,n⟩ wr=>Bb w [.obj m (.stringIter ⟨(a0).toArray⟩ a)] wr/\Ia (I7 a0 a1) n a=some r) (fun⟨a,n⟩=>n) ((0:Nat),f) Z ⟨y,h⟩ ?_;rintro⟨a,nn67⟩ ap ⟨g,h⟩;obtain⟨f,ay,rfl,h,c⟩:=AZ h;refine Aj<|Abv (l:=a0) (p:=a) 0 Z g Z (fun d=>?_) (fun d=>?_)
  ·have h:=ON d h;intro az j aj;refine A8 1 Z<|AB<|Fq<|Ax<|As<|A4<|AI 4 Z<|Bx 2 Z<|Aw h fun a2 z h=>AD j (JT _ _ (An j) z) fun a3 aq k ak=>A8 1 Z<|AQ h ?_ ?_<;>intro aa h
   ·refine AI 2 Z<|Ay<|Av<|BJ ?_;have h:=Cf.out h c;refine Av<|Bs ?_
    cases h
    refine Al Z ⟨k.ext,Z⟩
   refine Ax<|A3 ?_;have h:=Cf.again h c;refine AM (_,_) Z ⟨k,h⟩
  have h:=OO d h;refine A8 1 Z<|AB<|G5<|B4<|AF<|A5 ?_;have h:=Cf.out h c;refine Bg ?_;have ab:=g.AS (i:=0) Z;refine AA () ⟨ab,h⟩
 rintro _ ar ⟨ac,h⟩;refine AI 1 Z<|Ay ?_
 cases h
 refine Al Z ⟨ac.ext,Z⟩
def Et(a0:AaV)(a1:AaV):Option Bool:=
 if(a1.length:Int)<=(a0.length:Int) then AN (0<=(a1.length:Int)/\(a1.length:Int)<=(a0.length:Int)) (some (decide ((a0.take (a1.length:Int).toNat)=a1))) else some false
theorem LF{a0 a1:AaV}{r:Bool}(h:Et a0 a1=some r):
  Qqv 262 [AaM a0,AaM a1] w (fun v w'=>v=.bool r):=by
 refine A1 18 [(0,(AaM a0)),(1,(AaM a1))] func262 Z fun hL=>AI 1 Z<|Bx 1 Z<|Ai (IP Z)<|Ar 1 Z<|Ai (IP Z)<|Ar 2 Z<|CI 10 h ?_ ?_<;>intro a h
 ·refine Ab a<|Ai (Am Z)<|Ab a<|Ai (Am Z)<|Ab a<|Ai (IP Z)<|Ab a<|A2 h fun b h=>Ai (AdL b)<|Ab a<|Ai (Am Z)<|Ab a<|Ai (Nx Z Z)<|Ai (AK a Z)<|A8 1 Z<|Ay ?_
  cases h
  refine Al Z ⟨hL.ext,Z⟩
 iterate 6 refine Ao a ?_
 refine Ai (AO a Z)<|A8 1 Z<|Ay ?_
 cases h
 refine Al Z ⟨hL.ext,Z⟩
def Eu(a0:AaV)(a1:AaV):Option (AaV×Bool):=
 Qq4 (Et a0 a1) (fun a=>if !a then some (a0,false) else AN (0<=(a1.length:Int)/\(a1.length:Int)<=(a0.length:Int)) (some ((a0.drop (a1.length:Int).toNat),true)))
theorem LG{a0 a1:AaV}{r:AaV×Bool}(h:Eu a0 a1=some r):
  Qqv 215 [AaM a0,AaM a1] w (fun v w'=>v=.tuple #[AaM r.1,.bool r.2]):=by
 refine A1 15 [(0,(AaM a0)),(1,(AaM a1))] func215 Z fun hL=>AI 2 Z<|AB<|Bx 2 Z<|Aw h fun g b h=>AD hL (LF _ _ (An hL) b) fun i f a e=>A8 1 Z<|B8 h ?_ ?_<;>intro c h
 ·refine AI 3 Z<|Ay<|Aq ?_
  cases h
  refine Al Z ⟨a.ext,Z⟩
 refine Ax<|As<|Bx 2 Z<|Ai (IP Z)<|A2 h fun d h=>Ai (Aag d)<|A8 2 Z<|Ay ?_
 cases h
 refine Al Z ⟨a.ext,Z⟩
def JI(a0:AaV)(a1:AaV):Option (AaV×Bool):=
 Qq4 (Eu a0 a1) (fun a=>some (a.1,a.2))
theorem QV{a0 a1:AaV}{r:AaV×Bool}(h:JI a0 a1=some r):
  Qqv 165 [AaM a0,AaM a1] w (fun v w'=>v=.tuple #[AaM r.1,.bool r.2]):=by
 refine A1 11 [(0,(AaM a0)),(1,(AaM a1))] func165 Z fun hL=>AI 2 Z<|Bx 2 Z<|Aw h fun e a h=>AD hL (LG _ _ (An hL) a) fun f d b c=>A8 4 Z<|Ay ?_
 cases h
 refine Al Z ⟨b.ext,Z⟩
end
end Go.Proofs.YtekmbcbgknmhiaaGreatDoor
end
noncomputable section
namespace Go.Proofs.YtekmbcbgknmhiaaGreatDoor
open Go Go.E Go.RowKit Go.Shelf
def Tc(s c:List UInt8):Option Int:=if 8<s.length\/c.length=1 then Go.L.AN (s.length<4294967281/\1<=c.length/\c.length<4294967281/\∀ b∈c,b.toNat<128) (some (Lib.indexAny s c)) else strings_IndexAny s c
section
variable(w:World)(H:PH)(hH:Le H (hp w)) include hH
theorem AcU{a0 a1:List UInt8}{r:Int}(h:Tc a0 a1=some r):Ok Tryz.prog 167 [.string ⟨a0.toArray⟩,.string ⟨a1.toArray⟩] w (fun v w'=>Ext w w'/\v=.int .i64 r):=by
 unfold Tc at h;have hs:(ByteArray.mk a0.toArray).size=a0.length:=by simp [Qxc]
 have hc:(ByteArray.mk a1.toArray).size=a1.length:=by simp [Qxc]
 split at h
 ·rename_i hor;obtain⟨⟨c,k,d,f⟩,h⟩:=Go.L.GG h;obtain rfl:=Option.some.inj h
  have hac:∀ (j:Nat) b,(ByteArray.mk a1.toArray).data.toList[j]? = some b->b.toNat<128:=fun j b hj=>f b (by
   have:=List.mem_of_getElem? hj
   simpa using this)
  refine⟨⟨Tryz.f167,_,Tryz.func167,Z,Z⟩,?_⟩
  by_cases g:a1.length=1
  ·refine(Any.strings_IndexAny_one (P:=Tryz.prog) Tryz.Adh ⟨a0.toArray⟩ ⟨a1.toArray⟩ w (by rw [hc];exact g) hac).mono fun e w' he=>?_;obtain⟨rfl,rfl⟩:=he;exact⟨_,Z,Ext.refl _,by simp⟩
  ·have a:(Tryz.prog.info? (Tryz.Tg.t 116)).map (fun i=>(i.zero,i.size))=some (some (.agg (Array.replicate 256 (.bool false))),256):=by kernel_rfl
   refine(Any.strings_IndexAny_long (P:=Tryz.prog) Tryz.Adh (zero_of_info a).1 (zero_of_info a).2 ⟨a0.toArray⟩ ⟨a1.toArray⟩ w (by rw [hc];omega) (by rw [hs];omega) (by rw [hs];exact c) (by rw [hc];exact d) hac).mono fun e w' he=>?_;obtain⟨rfl,rfl⟩:=he;exact⟨_,Z,(Dy _ _).trans (Dy _ _),by simp⟩
 ·exact R6 w H hH h
end
end Go.Proofs.YtekmbcbgknmhiaaGreatDoor
end
noncomputable section
namespace Go.Proofs.YtekmbcbgknmhiaaGreatDoor
open Go Go.E Go.RowKit Go.L
set_option maxHeartbeats 1000000
set_option maxRecDepth 10000
open _root_.Go.Proofs.Tryz
def BP(a0:AaV×Int)(a1:AaV):Option (Bool×(AaV×Int)):=
 Qq4 (JI a0.1 a1) (fun a=>if a.2 then some (a.2,(a.1,a0.2)) else some (a.2,(a0.1,a0.2)))
theorem Cc{c w:World}{H:PH}(hH:Le H (hp c))(O:List BS)(a0:AaV×Int)(a1:AaV){ba0:Nat}(hL:Bb c (Ha [.box ba0 [AaM a0.1,No a0.2] 86] O) w){r:Bool×(AaV×Int)}(h:BP a0 a1=some r):
  Ok prog 111 [Aad ba0,AaM a1] w (fun v w'=>v=.bool r.1/\Bb c (Ha [.box ba0 [AaM r.2.1,No r.2.2] 86] O) w'/\Le (fz w (Ha [.box ba0 [AaM a0.1,No a0.2] 86] O)) (fz w' (Ha [.box ba0 [AaM r.2.1,No r.2.2] 86] O))):=by
 refine Ds (n:=22) [(0,(Aad ba0)),(1,(AaM a1))] func111 Z Z Z Z ?_;have hT:=Le.refl (fz w (Ha [.box ba0 [AaM a0.1,No a0.2] 86] O));refine AI 1 Z<|Bx 1 Z<|Ai (Na Z)<|Ai (Ae Z AjY Z HO.e)<|Ai (Ag 0 Z hL Z)<|Ar 1 Z<|Aw h fun j e h=>AD hL (QV _ _ (An hL) e) fun k i b a=>A8 5 Z<|AB<|AI 1 Z<|B8 h ?_ ?_<;>intro f h
 ·refine Au<|Ar 2 Z<|Ai (Na Z)<|Ai (Ae Z AjY Z HO.e)<|B5 0 Z Z b Z Z fun l g d=>AL<|As<|AI 2 Z<|Ay ?_
  cases h
  refine Al Z ?_;have hT:=hT.trans (a.trans d);exact⟨Z,g,hT⟩
 refine Ax<|As<|AI 2 Z<|Ay ?_
 cases h
 refine Al Z ?_;have hT:=hT.trans a;exact⟨Z,b,hT⟩
def FO(a1:Int)(y8:Qv×(AaV×Int))(a:List Qv)(b:AaV)(c:Int):Option (Option (Qv×(AaV×Int))):=
 if(a.length:Int)=1 then some (some (y8.1,(b,c))) else some (some ((Qv.mk a1 ([]) ([]:AaV) ([]) (0:Int) (0:Int) a),(b,c)))
def Fm(a1:Int)(a2:AaV)(self:(AaV×Int)->Option (Option (Qv×(AaV×Int))))(y8:Qv×(AaV×Int)):(List Qv)×AaV×Int->Option (((List Qv)×AaV×Int) ⊕ (Option (Qv×(AaV×Int)))):=fun⟨b,c,d⟩=>
 Qq4 (BP (c,d) a2) (fun a=>if a.1 then Qq4 (self (a.2.1,a.2.2)) (fun e=>ZS e (Qq7 Sum.inr (some none)) (fun y86=>AN (Go.E.HK 112 (b.length+([y86.1]).length)) (some (Sum.inl ((b++[y86.1]),y86.2.1,y86.2.2))))) else Qq7 Sum.inr ((FO a1 y8) b a.2.1 a.2.2))
def HY(a1:Int)(a2:AaV)(self:(AaV×Int)->Option (Option (Qv×(AaV×Int))))(y8:Qv×(AaV×Int))(s:(List Qv)×AaV×Int):Option (Option (Qv×(AaV×Int))):=Go.L.run (Fm a1 a2 self y8) s
def Hd(self:(AaV×Int)->Option (Option (Qv×(AaV×Int))))(a0:AaV×Int)(a1:Int)(a2:AaV):Option (Option (Qv×(AaV×Int))):=
 Qq4 (self (a0.1,a0.2)) (fun a=>ZS a (some none) (fun y8=>(HY a1 a2 self y8) ([y8.1],y8.2.1,y8.2.2)))
theorem Oj{self:(AaV×Int)->Option (Option (Qv×(AaV×Int)))}(hself:∀ {a w:World} {H:PH} (hH:Le H (hp a)) (hU:Gq H) {O:List BS} {a0:AaV×Int} {ba0:Nat} (hL:Bb a (Ha [.box ba0 [AaM a0.1,No a0.2] 86] O) w) {r:Option (Qv×(AaV×Int))} (h:self a0=some r),WI prog 70 [Aad ba0] w (.iface 82 (.agg #[])) (fun v w'=>YK r v (fun r v=>∃ (u1:Value) (u3:Value) (u6:Value),v=.agg #[No r.1.f.1,u1,AaM r.1.f.2.2.1,u3,No r.1.f.2.2.2.2.1,No r.1.f.2.2.2.2.2.1,u6]/\Bb a (Ha [.box ba0 [AaM r.2.1,No r.2.2] 86] O) w'/\Le (fz w (Ha [.box ba0 [AaM a0.1,No a0.2] 86] O)) (fz w' (Ha [.box ba0 [AaM r.2.1,No r.2.2] 86] O))/\AJ .st (gz H a w' (Ha [.box ba0 [AaM r.2.1,No r.2.2] 86] O)) u1 (r.1.f.2.1)/\AJ .byte (gz H a w' (Ha [.box ba0 [AaM r.2.1,No r.2.2] 86] O)) u3 (r.1.f.2.2.2.1)/\AJ .Bu (gz H a w' (Ha [.box ba0 [AaM r.2.1,No r.2.2] 86] O)) u6 (r.1.f.2.2.2.2.2.2)) (Bb a O w'/\Le (fz w (Ha [.box ba0 [AaM a0.1,No a0.2] 86] O)) (fz w' O)))){a w:World}{H:PH}(hH:Le H (hp a))(hU:Gq H){O:List BS}{a0:AaV×Int}{a1:Int}{a2:AaV}{ba0:Nat}(hL:Bb a (Ha [.box ba0 [AaM a0.1,No a0.2] 86] O) w){r:Option (Qv×(AaV×Int))}(h:Hd self a0 a1 a2=some r):
  WI prog 69 [Aad ba0,No a1,AaM a2,.func (.func 70) #[Aad ba0] #[]] w (.iface 82 (.agg #[])) (fun v w'=>YK r v (fun r v=>∃ (u1:Value) (u3:Value) (u6:Value),v=.agg #[No r.1.f.1,u1,AaM r.1.f.2.2.1,u3,No r.1.f.2.2.2.2.1,No r.1.f.2.2.2.2.2.1,u6]/\Bb a (Ha [.box ba0 [AaM r.2.1,No r.2.2] 86] O) w'/\Le (fz w (Ha [.box ba0 [AaM a0.1,No a0.2] 86] O)) (fz w' (Ha [.box ba0 [AaM r.2.1,No r.2.2] 86] O))/\AJ .st (gz H a w' (Ha [.box ba0 [AaM r.2.1,No r.2.2] 86] O)) u1 (r.1.f.2.1)/\AJ .byte (gz H a w' (Ha [.box ba0 [AaM r.2.1,No r.2.2] 86] O)) u3 (r.1.f.2.2.2.1)/\AJ .Bu (gz H a w' (Ha [.box ba0 [AaM r.2.1,No r.2.2] 86] O)) u6 (r.1.f.2.2.2.2.2.2)) (Bb a O w'/\Le (fz w (Ha [.box ba0 [AaM a0.1,No a0.2] 86] O)) (fz w' O))):=by
 refine NH 30 [(0,(Aad ba0)),(1,No a1),(2,(AaM a2)),(3,.func (.func 70) #[Aad ba0] #[])] func69 Z Z Z Z Z ?_;have hT:=Le.refl (fz w (Ha [.box ba0 [AaM a0.1,No a0.2] 86] O));refine Aj<|A9 By.e Z hL fun w1 b1 bz aw _=>Ad<|Bx 1 Z ?_;have b0:Bb a (Ha [.box ba0 [AaM a0.1,No a0.2] 86,.box b1 AbM 26] O) w1:=bz.C1 [1] Z;have ax:=B3 [1] bz b0 Z;refine Aw h fun x3 cn h=>Sx [Aad ba0] [] Z Z (hself (a0:=(a0.1,a0.2)) (O:=(Ha [.box b1 AbM 26] O)) hH hU b0 cn) ?_ ?_
 ·rintro rfl w5 ⟨co,b3⟩;have h:=KH h;refine Ft ?_
  cases h
  refine N4 ?_;have cp:=co.AS (i:=0) Z;have hT:=hT.trans (aw.trans (ax.trans (b3.trans (Ak (i:=0) Z))));exact LK ⟨cp,hT⟩
 rintro y8 rfl _ w4 ⟨g,j,k,rfl,cq,bh,s,t,u⟩;have h:=KI h;refine A9 By.e Z cq fun w9 b9 cr ac _=>Af 0 Z cr Z (a:=(Bk Z (Bk s.one (Bk Z (Bk t.one (Bk Z (Bk Z (Bk u.one Kq)))))))) fun c2 ay x=>Ad ?_;have p:=ay.rG H;refine Aj<|Ai (Az 0 Z By.e ay Z) ?_;have s:=s.mono (Aa (ac.trans x));have t:=t.mono (Aa (ac.trans x));have u:=u.mono (Aa (ac.trans x));refine O7 [y8.1] (r:=.Bu) (fun _=>N5 _ _ _ _ _ _ _ _) (BI 1) hH ay (.c7 (Go.E.Rp.H8 ⟨_,_,Z,Z,⟨_,_,Z,⟨_,Z,(s.mono p)⟩,⟨_,_,Z,Z,⟨_,_,Z,⟨_,Z,(t.mono p)⟩,⟨_,_,Z,Z,⟨_,_,Z,Z,⟨_,Z,(u.mono p)⟩⟩⟩⟩⟩⟩⟩) .nil) fun cs c3 b4 b5 ai b6=>A8 1 Z ?_
 refine B2 ((List Qv)×AaV×Int×Value×(List Value)) (fun⟨am,a6,a7,ad,aa⟩=>[(1,No a1),(8,(Aad b1)),(9,(Aad b9)),(10,ad)]) (fun⟨am,a6,a7,ad,aa⟩ wr=>FX a (Ha [.row ad 26 7 (am).length aa,.box b9 [No y8.1.f.1,g,AaM y8.1.f.2.2.1,j,No y8.1.f.2.2.2.2.1,No y8.1.f.2.2.2.2.2.1,k] 26,.box ba0 [AaM a6,No a7] 86,.box b1 AbM 26] O) wr fun Oz=>AH .Bu (gz H a wr Oz) am aa/\AJ .st (gz H a wr Oz) g (y8.1.f.2.1)/\AJ .byte (gz H a wr Oz) j (y8.1.f.2.2.2.1)/\AJ .Bu (gz H a wr Oz) k (y8.1.f.2.2.2.2.2.2)/\Le (fz w (Ha [.box ba0 [AaM a0.1,No a0.2] 86] O)) (fz wr Oz)/\(FO a1 y8) am a6 a7=some r) ?_ ?_
 ·refine A4 ?_;obtain⟨bi,h⟩:=Ba h;have hT:=hT.trans (aw.trans (ax.trans (bh.trans (ac.trans (x.trans ai)))));have p:=p.trans (Aa ai)
  refine B7 ((List Qv)×AaV×Int×Value×(List Value)×Nat) (fun⟨e,ae,af,o,c,n⟩=>[(0,(Aad ba0)),(1,No a1),(2,(AaM a2)),(3,.func (.func 70) #[Aad ba0] #[]),(8,(Aad b1)),(9,(Aad b9)),(10,o)]) (fun⟨e,ae,af,o,c,n⟩ wr=>FX a (Ha [.row o 26 7 (e).length c,.box b9 [No y8.1.f.1,g,AaM y8.1.f.2.2.1,j,No y8.1.f.2.2.2.2.1,No y8.1.f.2.2.2.2.2.1,k] 26,.box ba0 [AaM ae,No af] 86,.box b1 AbM 26] O) wr fun Oz=>AH .Bu (gz H a wr Oz) e c/\AJ .st (gz H a wr Oz) g (y8.1.f.2.1)/\AJ .byte (gz H a wr Oz) j (y8.1.f.2.2.2.1)/\AJ .Bu (gz H a wr Oz) k (y8.1.f.2.2.2.2.2.2)/\Le (fz w (Ha [.box ba0 [AaM a0.1,No a0.2] 86] O)) (fz wr Oz)/\Ia (Fm a1 a2 self y8) n (e,ae,af)=some r) (fun⟨e,ae,af,o,c,n⟩=>n) ([y8.1],y8.2.1,y8.2.2,cs,b4,bi) Z ⟨b5,b6,(s.mono p),(t.mono p),(u.mono p),hT,h⟩ ?_;rintro⟨e,ae,af,o,c,nn71⟩ b7 ⟨az,a8,an,ao,ap,hT,h⟩
  obtain⟨bi,c4,rfl,h,a3⟩:=AZ h;refine AB ?_;have b:=az.rG H;refine Bx 2 Z ?_;have bj:Bb a (Ha [.box ba0 [AaM ae,No af] 86,.row o 26 7 (e).length c,.box b9 [No y8.1.f.1,g,AaM y8.1.f.2.2.1,j,No y8.1.f.2.2.2.2.1,No y8.1.f.2.2.2.2.2.1,k] 26,.box b1 AbM 26] O) b7:=az.C1 [2] Z;have y:=B3 [2] az bj Z;refine Aw h fun ag b8 h=>ES (Cc hH ((Ha [.row o 26 7 (e).length c,.box b9 [No y8.1.f.1,g,AaM y8.1.f.2.2.1,j,No y8.1.f.2.2.2.2.1,No y8.1.f.2.2.2.2.2.1,k] 26,.box b1 AbM 26] O)) (ae,af) a2 bj b8) ?_;rintro _ ct ⟨rfl,a4,z⟩;refine Ad<|B8 h ?_ ?_<;>intro ca h
  ·refine Ax<|As<|A4<|Au<|Ar 2 Z<|Aw h fun c5 cb h=>Sx [Aad ba0] [] Z Z (hself (a0:=(ag.2.1,ag.2.2)) (O:=(Ha [.row o 26 7 (e).length c,.box b9 [No y8.1.f.1,g,AaM y8.1.f.2.2.1,j,No y8.1.f.2.2.2.2.1,No y8.1.f.2.2.2.2.2.1,k] 26,.box b1 AbM 26] O)) hH hU a4 cb) ?_ ?_
   ·rintro rfl c6 ⟨cc,bs⟩;have h:=KH h;refine HL<|RA ?_;have h:=Cf.out h a3;refine HL<|Pz ?_
    cases h
    refine N4 ?_;have cd:=cc.AS (i:=0) Z;have ce:=cd.AS (i:=0) Z;have cf:=ce.AS (i:=0) Z;have hT:=hT.trans (y.trans (z.trans (bs.trans ((Ak (i:=0) Z).trans ((Ak (i:=0) Z).trans (Ak (i:=0) Z))))));exact LK ⟨cf,hT⟩
   rintro y86 rfl _ c8 ⟨cv,cw,cx,rfl,cg,a9,bk,bl,bm⟩;have h:=KI h;refine B9 [y86.1] (r:=.Bu) (fun _=>N5 _ _ _ _ _ _ _ _) cg (.c7 (Go.E.Rp.H8 ⟨_,_,Z,Z,⟨_,_,Z,⟨_,Z,bk⟩,⟨_,_,Z,Z,⟨_,_,Z,⟨_,Z,bl⟩,⟨_,_,Z,Z,⟨_,_,Z,Z,⟨_,Z,bm⟩⟩⟩⟩⟩⟩⟩) .nil) fun c9 da cz ch ba ci=>A2 h fun cj h=>?_;have b:=b.trans (Aa (y.trans (z.trans (a9.trans ba))));refine Bt (r:=.Bu) 1 e [y86.1] Z AjP ch Z (a8.mono b) ci cj fun b2 cu bn bo bb a5=>Ar 1 Z<|AL<|A3 ?_;have bp:Bb a (Ha [.row b2 26 7 ((e++[y86.1])).length bn,.box b9 [No y8.1.f.1,g,AaM y8.1.f.2.2.1,j,No y8.1.f.2.2.2.2.1,No y8.1.f.2.2.2.2.2.1,k] 26,.box ba0 [AaM y86.2.1,No y86.2.2] 86,.box b1 AbM 26] O) cu:=bo.C1 [2,2] Z;have aj:=B3 [2,2] bo bp Z;have h:=Cf.again h a3;have hT:=hT.trans (y.trans (z.trans (a9.trans (ba.trans (bb.trans aj)))))
   have b:=b.trans (Aa (bb.trans aj));have a5:=a5.mono (Aa aj);refine AM ((e++[y86.1]),y86.2.1,y86.2.2,b2,bn,bi) Z ⟨bp,a5,(an.mono b),(ao.mono b),(ap.mono b),hT,h⟩
  refine B4<|AF<|A5 ?_;have h:=Cf.out h a3;refine Bg ?_;have bq:Bb a (Ha [.row o 26 7 (e).length c,.box b9 [No y8.1.f.1,g,AaM y8.1.f.2.2.1,j,No y8.1.f.2.2.2.2.1,No y8.1.f.2.2.2.2.2.1,k] 26,.box ba0 [AaM ag.2.1,No ag.2.2] 86,.box b1 AbM 26] O) ct:=a4.C1 [2,2] Z;have bc:=B3 [2,2] a4 bq Z;have b:=b.trans (Aa (y.trans (z.trans bc)));have hT:=hT.trans (y.trans (z.trans bc));refine AA (_,_,_,_,_) ⟨bq,(a8.mono b),(an.mono b),(ao.mono b),(ap.mono b),hT,h⟩
 have hT:=hT.trans (aw.trans (ax.trans (bh.trans (ac.trans (x.trans ai)))));rintro⟨am,a6,a7,ad,aa⟩ c0 ⟨q,bt,aq,ar,au,hT,h⟩;refine AB ?_;have d:=q.rG H;refine Bx 1 Z<|Ai (Qw 0 Z q Z)<|A8 1 Z<|AQ h ?_ ?_<;>intro ck h
 ·refine Aj<|Ai (Az 1 Z By.e q Z)<|Af 3 Z q Z (a:=(Bk Z (Bk (aq.mono d).one (Bk Z (Bk (ar.mono d).one (Bk Z (Bk Z (Bk (au.mono d).one Kq)))))))) fun db br bd=>Ad<|Ay<|Aq ?_
  cases h
  refine N3<|Dz (.cell Z Aj3 Z By.e (AG (i:=3) br Z)) ?_;have cl:=br.AS (i:=0) Z;have cm:=cl.AS (i:=0) Z;have bu:=cm.AS (i:=1) Z;have d:=d.trans (Aa (bd.trans ((Ak (i:=0) Z).trans ((Ak (i:=0) Z).trans (Ak (i:=1) Z)))));have hT:=hT.trans (bd.trans ((Ak (i:=0) Z).trans ((Ak (i:=0) Z).trans (Ak (i:=1) Z))));exact KJ ⟨g,j,k,Z,bu,hT,(aq.mono d),(ar.mono d),(au.mono d)⟩
 refine Ax<|As<|Bx 2 Z<|Ai (AT (fun _=>OW _ _ (row_one (q.at (i:=0) Z)) _))<|Af 3 Z q Z (a:=(Bk Z (Bk Z (Bk Z (Bk Z (Bk Z (Bk Z (Bk (row_one (q.at (i:=0) Z)) Kq)))))))) fun c1 ak av=>Ad<|Ay ?_
 cases h
 refine N3<|Dz (.cell Z Aj3 Z By.e (AG (i:=3) ak Z)) ?_;have d:=d.trans (Aa av);have al:=ak.Du hH (i:=0) Z (bt.mono d);have bv:=ak.AS (i:=0) Z;have bw:=bv.AS (i:=0) Z;have bx:=bw.AS (i:=1) Z;have hT:=hT.trans (av.trans ((Ak (i:=0) Z).trans ((Ak (i:=0) Z).trans (Ak (i:=1) Z))));have al:=al.mono (Aa ((Ak (i:=0) Z).trans (Ak (i:=1) Z)));exact KJ ⟨Aac,Aac,ad,Z,bx,hT,(AJ.nil _ _),(AJ.nil _ _),al⟩
def Gp(self:(AaV×Int)->Option (Option (Qv×(AaV×Int))))(a0_0:AaV×Int):Option (Option (Qv×(AaV×Int))):=
 Qq4 (Hd self (a0_0.1,a0_0.2) (8:Int) ([38]:AaV)) (fun a=>ZS a (some none) (fun y9=>some (some (y9.1,(y9.2.1,y9.2.2)))))
theorem KZ{self:(AaV×Int)->Option (Option (Qv×(AaV×Int)))}(hself:∀ {a w:World} {H:PH} (hH:Le H (hp a)) (hU:Gq H) {O:List BS} {a0:AaV×Int} {ba0:Nat} (hL:Bb a (Ha [.box ba0 [AaM a0.1,No a0.2] 86] O) w) {r:Option (Qv×(AaV×Int))} (h:self a0=some r),WI prog 70 [Aad ba0] w (.iface 82 (.agg #[])) (fun v w'=>YK r v (fun r v=>∃ (j:Value) (k:Value) (l:Value),v=.agg #[No r.1.f.1,j,AaM r.1.f.2.2.1,k,No r.1.f.2.2.2.2.1,No r.1.f.2.2.2.2.2.1,l]/\Bb a (Ha [.box ba0 [AaM r.2.1,No r.2.2] 86] O) w'/\Le (fz w (Ha [.box ba0 [AaM a0.1,No a0.2] 86] O)) (fz w' (Ha [.box ba0 [AaM r.2.1,No r.2.2] 86] O))/\AJ .st (gz H a w' (Ha [.box ba0 [AaM r.2.1,No r.2.2] 86] O)) j (r.1.f.2.1)/\AJ .byte (gz H a w' (Ha [.box ba0 [AaM r.2.1,No r.2.2] 86] O)) k (r.1.f.2.2.2.1)/\AJ .Bu (gz H a w' (Ha [.box ba0 [AaM r.2.1,No r.2.2] 86] O)) l (r.1.f.2.2.2.2.2.2)) (Bb a O w'/\Le (fz w (Ha [.box ba0 [AaM a0.1,No a0.2] 86] O)) (fz w' O)))){a w:World}{H:PH}(hH:Le H (hp a))(hU:Gq H){O:List BS}{a0_0:AaV×Int}{ba0 ba0_0:Nat}(hL:Bb a (Ha [.box ba0 [Aad ba0_0] 84,.box ba0_0 [AaM a0_0.1,No a0_0.2] 86] O) w){r:Option (Qv×(AaV×Int))}(h:Gp self a0_0=some r):
  WI prog 68 [Aad ba0] w (.iface 82 (.agg #[])) (fun v w'=>YK r v (fun r v=>∃ (j:Value) (k:Value) (l:Value),v=.agg #[No r.1.f.1,j,AaM r.1.f.2.2.1,k,No r.1.f.2.2.2.2.1,No r.1.f.2.2.2.2.2.1,l]/\Bb a (Ha [.box ba0 [Aad ba0_0] 84,.box ba0_0 [AaM r.2.1,No r.2.2] 86] O) w'/\Le (fz w (Ha [.box ba0 [Aad ba0_0] 84,.box ba0_0 [AaM a0_0.1,No a0_0.2] 86] O)) (fz w' (Ha [.box ba0 [Aad ba0_0] 84,.box ba0_0 [AaM r.2.1,No r.2.2] 86] O))/\AJ .st (gz H a w' (Ha [.box ba0 [Aad ba0_0] 84,.box ba0_0 [AaM r.2.1,No r.2.2] 86] O)) j (r.1.f.2.1)/\AJ .byte (gz H a w' (Ha [.box ba0 [Aad ba0_0] 84,.box ba0_0 [AaM r.2.1,No r.2.2] 86] O)) k (r.1.f.2.2.2.1)/\AJ .Bu (gz H a w' (Ha [.box ba0 [Aad ba0_0] 84,.box ba0_0 [AaM r.2.1,No r.2.2] 86] O)) l (r.1.f.2.2.2.2.2.2)) (Bb a O w'/\Le (fz w (Ha [.box ba0 [Aad ba0_0] 84,.box ba0_0 [AaM a0_0.1,No a0_0.2] 86] O)) (fz w' O))):=by
 refine NH 6 [(0,(Aad ba0))] func68 Z Z Z Z Z ?_;have hT:=Le.refl (fz w (Ha [.box ba0 [Aad ba0_0] 84,.box ba0_0 [AaM a0_0.1,No a0_0.2] 86] O));refine Aj<|A9 By.e Z hL fun w1 b1 m o _=>Ad<|Aj ?_
 iterate 2 refine Ai (Ag 1 Z m Z) ?_
 refine Ar 1 Z ?_;have u:Bb a (Ha [.box ba0_0 [AaM a0_0.1,No a0_0.2] 86,.box b1 AbM 26,.box ba0 [Aad ba0_0] 84] O) w1:=m.C1 [2] Z;have p:=B3 [2] m u Z;refine Aw h fun x3 ad h=>OP (Oj (hself:=hself) (a0:=(a0_0.1,a0_0.2)) (a1:=8) (a2:=([38]:AaV)) (O:=(Ha [.box b1 AbM 26,.box ba0 [Aad ba0_0] 84] O)) hH hU u ad) ?_ ?_
 ·rintro rfl w5 ⟨ae,x⟩;have h:=KH h;refine Ft ?_
  cases h
  refine N4 ?_;have af:=ae.AS (i:=0) Z;have ag:=af.AS (i:=0) Z;have hT:=hT.trans (o.trans (p.trans (x.trans ((Ak (i:=0) Z).trans (Ak (i:=0) Z)))));exact LK ⟨ag,hT⟩
 rintro y9 rfl _ w4 ⟨y,z,aa,rfl,ah,ab,b,c,d⟩;have h:=KI h;refine Af 1 Z ah Z (a:=(Bk Z (Bk b.one (Bk Z (Bk c.one (Bk Z (Bk Z (Bk d.one Kq)))))))) fun ai q e=>Ad<|Ay ?_
 cases h
 refine N3<|Dz (.cell Z Aj3 Z By.e (AG (i:=1) q Z)) ?_;have s:=q.AS (i:=1) Z;have t:Bb a (Ha [.box ba0 [Aad ba0_0] 84,.box ba0_0 [AaM y9.2.1,No y9.2.2] 86] O) ai:=s.C1 [1] Z;have g:=B3 [1] s t Z;have hT:=hT.trans (o.trans (p.trans (ab.trans (e.trans ((Ak (i:=1) Z).trans g)))));have b:=b.mono (Aa (e.trans ((Ak (i:=1) Z).trans g)));have c:=c.mono (Aa (e.trans ((Ak (i:=1) Z).trans g)));have d:=d.mono (Aa (e.trans ((Ak (i:=1) Z).trans g)));exact KJ ⟨y,z,aa,Z,t,hT,b,c,d⟩
def He(a1:Int)(y8:Qv×(AaV×Int))(a:List Qv)(b:AaV)(c:Int):Option (Option (Qv×(AaV×Int))):=
 if(a.length:Int)=1 then some (some (y8.1,(b,c))) else some (some ((Qv.mk a1 ([]) ([]:AaV) ([]) (0:Int) (0:Int) a),(b,c)))
def GD(a1:Int)(a2:AaV)(self:(AaV×Int)->Option (Option (Qv×(AaV×Int))))(y8:Qv×(AaV×Int)):(List Qv)×AaV×Int->Option (((List Qv)×AaV×Int) ⊕ (Option (Qv×(AaV×Int)))):=fun⟨b,c,d⟩=>
 Qq4 (BP (c,d) a2) (fun a=>if a.1 then Qq4 (Gp self (a.2.1,a.2.2)) (fun e=>ZS e (Qq7 Sum.inr (some none)) (fun y90=>AN (Go.E.HK 112 (b.length+([y90.1]).length)) (some (Sum.inl ((b++[y90.1]),y90.2.1,y90.2.2))))) else Qq7 Sum.inr ((He a1 y8) b a.2.1 a.2.2))
def Jg(a1:Int)(a2:AaV)(self:(AaV×Int)->Option (Option (Qv×(AaV×Int))))(y8:Qv×(AaV×Int))(s:(List Qv)×AaV×Int):Option (Option (Qv×(AaV×Int))):=Go.L.run (GD a1 a2 self y8) s
def I8(self:(AaV×Int)->Option (Option (Qv×(AaV×Int))))(a0:AaV×Int)(a1:Int)(a2:AaV):Option (Option (Qv×(AaV×Int))):=
 Qq4 (Gp self (a0.1,a0.2)) (fun a=>ZS a (some none) (fun y8=>(Jg a1 a2 self y8) ([y8.1],y8.2.1,y8.2.2)))
theorem Pq{self:(AaV×Int)->Option (Option (Qv×(AaV×Int)))}(hself:∀ {a w:World} {H:PH} (hH:Le H (hp a)) (hU:Gq H) {O:List BS} {a0:AaV×Int} {ba0:Nat} (hL:Bb a (Ha [.box ba0 [AaM a0.1,No a0.2] 86] O) w) {r:Option (Qv×(AaV×Int))} (h:self a0=some r),WI prog 70 [Aad ba0] w (.iface 82 (.agg #[])) (fun v w'=>YK r v (fun r v=>∃ (u1:Value) (u3:Value) (u6:Value),v=.agg #[No r.1.f.1,u1,AaM r.1.f.2.2.1,u3,No r.1.f.2.2.2.2.1,No r.1.f.2.2.2.2.2.1,u6]/\Bb a (Ha [.box ba0 [AaM r.2.1,No r.2.2] 86] O) w'/\Le (fz w (Ha [.box ba0 [AaM a0.1,No a0.2] 86] O)) (fz w' (Ha [.box ba0 [AaM r.2.1,No r.2.2] 86] O))/\AJ .st (gz H a w' (Ha [.box ba0 [AaM r.2.1,No r.2.2] 86] O)) u1 (r.1.f.2.1)/\AJ .byte (gz H a w' (Ha [.box ba0 [AaM r.2.1,No r.2.2] 86] O)) u3 (r.1.f.2.2.2.1)/\AJ .Bu (gz H a w' (Ha [.box ba0 [AaM r.2.1,No r.2.2] 86] O)) u6 (r.1.f.2.2.2.2.2.2)) (Bb a O w'/\Le (fz w (Ha [.box ba0 [AaM a0.1,No a0.2] 86] O)) (fz w' O)))){a w:World}{H:PH}(hH:Le H (hp a))(hU:Gq H){O:List BS}{a0:AaV×Int}{a1:Int}{a2:AaV}{ba0 ba3_c0:Nat}(hL:Bb a (Ha [.box ba0 [AaM a0.1,No a0.2] 86,.box ba3_c0 [Aad ba0] 84] O) w){r:Option (Qv×(AaV×Int))}(h:I8 self a0 a1 a2=some r):
  WI prog 69 [Aad ba0,No a1,AaM a2,.func (.func 68) #[] #[Aad ba3_c0]] w (.iface 82 (.agg #[])) (fun v w'=>YK r v (fun r v=>∃ (u1:Value) (u3:Value) (u6:Value),v=.agg #[No r.1.f.1,u1,AaM r.1.f.2.2.1,u3,No r.1.f.2.2.2.2.1,No r.1.f.2.2.2.2.2.1,u6]/\Bb a (Ha [.box ba0 [AaM r.2.1,No r.2.2] 86,.box ba3_c0 [Aad ba0] 84] O) w'/\Le (fz w (Ha [.box ba0 [AaM a0.1,No a0.2] 86,.box ba3_c0 [Aad ba0] 84] O)) (fz w' (Ha [.box ba0 [AaM r.2.1,No r.2.2] 86,.box ba3_c0 [Aad ba0] 84] O))/\AJ .st (gz H a w' (Ha [.box ba0 [AaM r.2.1,No r.2.2] 86,.box ba3_c0 [Aad ba0] 84] O)) u1 (r.1.f.2.1)/\AJ .byte (gz H a w' (Ha [.box ba0 [AaM r.2.1,No r.2.2] 86,.box ba3_c0 [Aad ba0] 84] O)) u3 (r.1.f.2.2.2.1)/\AJ .Bu (gz H a w' (Ha [.box ba0 [AaM r.2.1,No r.2.2] 86,.box ba3_c0 [Aad ba0] 84] O)) u6 (r.1.f.2.2.2.2.2.2)) (Bb a O w'/\Le (fz w (Ha [.box ba0 [AaM a0.1,No a0.2] 86,.box ba3_c0 [Aad ba0] 84] O)) (fz w' O))):=by
 refine NH 30 [(0,(Aad ba0)),(1,No a1),(2,(AaM a2)),(3,.func (.func 68) #[] #[Aad ba3_c0])] func69 Z Z Z Z Z ?_;have hT:=Le.refl (fz w (Ha [.box ba0 [AaM a0.1,No a0.2] 86,.box ba3_c0 [Aad ba0] 84] O));refine Aj<|A9 By.e Z hL fun w1 b1 cd a6 _=>Ad<|Bx 1 Z ?_;have ce:Bb a (Ha [.box ba3_c0 [Aad ba0] 84,.box ba0 [AaM a0.1,No a0.2] 86,.box b1 AbM 26] O) w1:=cd.C1 [1,2] Z;have a7:=B3 [1,2] cd ce Z;refine Aw h fun x3 cy h=>Sx [] [Aad ba3_c0] Z Z (KZ (hself:=hself) (a0_0:=(a0.1,a0.2)) (O:=(Ha [.box b1 AbM 26] O)) hH hU ce cy) ?_ ?_
 ·rintro rfl w5 ⟨cz,cg⟩;have h:=KH h;refine Ft ?_
  cases h
  refine N4 ?_;have c0:=cz.AS (i:=0) Z;have hT:=hT.trans (a6.trans (a7.trans (cg.trans (Ak (i:=0) Z))));exact LK ⟨c0,hT⟩
 rintro y8 rfl _ w4 ⟨d,e,g,rfl,c1,br,t,u,x⟩;have h:=KI h;refine A9 By.e Z c1 fun w9 b9 c2 ae _=>Af 0 Z c2 Z (a:=(Bk Z (Bk t.one (Bk Z (Bk u.one (Bk Z (Bk Z (Bk x.one Kq)))))))) fun dc a8 y=>Ad ?_;have p:=a8.rG H;refine Aj<|Ai (Az 0 Z By.e a8 Z) ?_;have t:=t.mono (Aa (ae.trans y));have u:=u.mono (Aa (ae.trans y));have x:=x.mono (Aa (ae.trans y));refine O7 [y8.1] (r:=.Bu) (fun _=>N5 _ _ _ _ _ _ _ _) (BI 1) hH a8 (.c7 (Go.E.Rp.H8 ⟨_,_,Z,Z,⟨_,_,Z,⟨_,Z,(t.mono p)⟩,⟨_,_,Z,Z,⟨_,_,Z,⟨_,Z,(u.mono p)⟩,⟨_,_,Z,Z,⟨_,_,Z,Z,⟨_,Z,(x.mono p)⟩⟩⟩⟩⟩⟩⟩) .nil) fun c3 dd ch ci ak cj=>A8 1 Z ?_
 refine B2 ((List Qv)×AaV×Int×Value×(List Value)) (fun⟨aq,ai,aj,af,ac⟩=>[(1,No a1),(8,(Aad b1)),(9,(Aad b9)),(10,af)]) (fun⟨aq,ai,aj,af,ac⟩ wr=>FX a (Ha [.row af 26 7 (aq).length ac,.box b9 [No y8.1.f.1,d,AaM y8.1.f.2.2.1,e,No y8.1.f.2.2.2.2.1,No y8.1.f.2.2.2.2.2.1,g] 26,.box ba3_c0 [Aad ba0] 84,.box ba0 [AaM ai,No aj] 86,.box b1 AbM 26] O) wr fun Oz=>AH .Bu (gz H a wr Oz) aq ac/\AJ .st (gz H a wr Oz) d (y8.1.f.2.1)/\AJ .byte (gz H a wr Oz) e (y8.1.f.2.2.2.1)/\AJ .Bu (gz H a wr Oz) g (y8.1.f.2.2.2.2.2.2)/\Le (fz w (Ha [.box ba0 [AaM a0.1,No a0.2] 86,.box ba3_c0 [Aad ba0] 84] O)) (fz wr Oz)/\(He a1 y8) aq ai aj=some r) ?_ ?_
 ·refine A4 ?_;obtain⟨bs,h⟩:=Ba h;have hT:=hT.trans (a6.trans (a7.trans (br.trans (ae.trans (y.trans ak)))));have p:=p.trans (Aa ak)
  refine B7 ((List Qv)×AaV×Int×Value×(List Value)×Nat) (fun⟨k,ag,ah,j,b,n⟩=>[(0,(Aad ba0)),(1,No a1),(2,(AaM a2)),(3,.func (.func 68) #[] #[Aad ba3_c0]),(8,(Aad b1)),(9,(Aad b9)),(10,j)]) (fun⟨k,ag,ah,j,b,n⟩ wr=>FX a (Ha [.row j 26 7 (k).length b,.box b9 [No y8.1.f.1,d,AaM y8.1.f.2.2.1,e,No y8.1.f.2.2.2.2.1,No y8.1.f.2.2.2.2.2.1,g] 26,.box ba3_c0 [Aad ba0] 84,.box ba0 [AaM ag,No ah] 86,.box b1 AbM 26] O) wr fun Oz=>AH .Bu (gz H a wr Oz) k b/\AJ .st (gz H a wr Oz) d (y8.1.f.2.1)/\AJ .byte (gz H a wr Oz) e (y8.1.f.2.2.2.1)/\AJ .Bu (gz H a wr Oz) g (y8.1.f.2.2.2.2.2.2)/\Le (fz w (Ha [.box ba0 [AaM a0.1,No a0.2] 86,.box ba3_c0 [Aad ba0] 84] O)) (fz wr Oz)/\Ia (GD a1 a2 self y8) n (k,ag,ah)=some r) (fun⟨k,ag,ah,j,b,n⟩=>n) ([y8.1],y8.2.1,y8.2.2,c3,ch,bs) Z ⟨ci,cj,(t.mono p),(u.mono p),(x.mono p),hT,h⟩ ?_
  rintro⟨k,ag,ah,j,b,nn74⟩ ck ⟨a9,bd,ar,au,av,hT,h⟩;obtain⟨bs,de,rfl,h,ba⟩:=AZ h;refine AB ?_;have c:=a9.rG H;refine Bx 2 Z ?_;have bt:Bb a (Ha [.box ba0 [AaM ag,No ah] 86,.row j 26 7 (k).length b,.box b9 [No y8.1.f.1,d,AaM y8.1.f.2.2.1,e,No y8.1.f.2.2.2.2.1,No y8.1.f.2.2.2.2.2.1,g] 26,.box ba3_c0 [Aad ba0] 84,.box b1 AbM 26] O) ck:=a9.C1 [3] Z;have z:=B3 [3] a9 bt Z;refine Aw h fun q cl h=>ES (Cc hH ((Ha [.row j 26 7 (k).length b,.box b9 [No y8.1.f.1,d,AaM y8.1.f.2.2.1,e,No y8.1.f.2.2.2.2.1,No y8.1.f.2.2.2.2.2.1,g] 26,.box ba3_c0 [Aad ba0] 84,.box b1 AbM 26] O)) (ag,ah) a2 bt cl) ?_;rintro _ bu ⟨rfl,al,aa⟩;refine Ad<|B8 h ?_ ?_<;>intro cm h
  ·refine Ax<|As<|A4<|Au<|Ar 2 Z ?_;have bv:Bb a (Ha [.box ba3_c0 [Aad ba0] 84,.box ba0 [AaM q.2.1,No q.2.2] 86,.row j 26 7 (k).length b,.box b9 [No y8.1.f.1,d,AaM y8.1.f.2.2.1,e,No y8.1.f.2.2.2.2.1,No y8.1.f.2.2.2.2.2.1,g] 26,.box b1 AbM 26] O) bu:=al.C1 [3] Z;have am:=B3 [3] al bv Z;refine Aw h fun df cn h=>Sx [] [Aad ba3_c0] Z Z (KZ (hself:=hself) (a0_0:=(q.2.1,q.2.2)) (O:=(Ha [.row j 26 7 (k).length b,.box b9 [No y8.1.f.1,d,AaM y8.1.f.2.2.1,e,No y8.1.f.2.2.2.2.1,No y8.1.f.2.2.2.2.2.1,g] 26,.box b1 AbM 26] O)) hH hU bv cn) ?_ ?_
   ·rintro rfl dg ⟨co,b5⟩;have h:=KH h;refine HL<|RA ?_;have h:=Cf.out h ba;refine HL<|Pz ?_
    cases h
    refine N4 ?_;have cp:=co.AS (i:=0) Z;have cq:=cp.AS (i:=0) Z;have cr:=cq.AS (i:=0) Z;have hT:=hT.trans (z.trans (aa.trans (am.trans (b5.trans ((Ak (i:=0) Z).trans ((Ak (i:=0) Z).trans (Ak (i:=0) Z)))))));exact LK ⟨cr,hT⟩
   rintro y90 rfl _ dh ⟨c5,c6,c8,rfl,cs,be,bw,bx,bz⟩;have h:=KI h;refine B9 [y90.1] (r:=.Bu) (fun _=>N5 _ _ _ _ _ _ _ _) cs (.c7 (Go.E.Rp.H8 ⟨_,_,Z,Z,⟨_,_,Z,⟨_,Z,bw⟩,⟨_,_,Z,Z,⟨_,_,Z,⟨_,Z,bx⟩,⟨_,_,Z,Z,⟨_,_,Z,Z,⟨_,Z,bz⟩⟩⟩⟩⟩⟩⟩) .nil) fun di dj da ct bf cu=>A2 h fun cv h=>?_;have c:=c.trans (Aa (z.trans (aa.trans (am.trans (be.trans bf)))));refine Bt (r:=.Bu) 2 k [y90.1] Z AjP ct Z (bd.mono c) cu cv fun cf c4 b0 b2 bg bb=>Ar 1 Z<|AL<|A3 ?_;have b3:Bb a (Ha [.row cf 26 7 ((k++[y90.1])).length b0,.box b9 [No y8.1.f.1,d,AaM y8.1.f.2.2.1,e,No y8.1.f.2.2.2.2.1,No y8.1.f.2.2.2.2.2.1,g] 26,.box ba3_c0 [Aad ba0] 84,.box ba0 [AaM y90.2.1,No y90.2.2] 86,.box b1 AbM 26] O) c4:=b2.C1 [3,3] Z;have an:=B3 [3,3] b2 b3 Z;have h:=Cf.again h ba
   have hT:=hT.trans (z.trans (aa.trans (am.trans (be.trans (bf.trans (bg.trans an))))));have c:=c.trans (Aa (bg.trans an));have bb:=bb.mono (Aa an);refine AM ((k++[y90.1]),y90.2.1,y90.2.2,cf,b0,bs) Z ⟨b3,bb,(ar.mono c),(au.mono c),(av.mono c),hT,h⟩
  refine B4<|AF<|A5 ?_;have h:=Cf.out h ba;refine Bg ?_;have bc:Bb a (Ha [.box b9 [No y8.1.f.1,d,AaM y8.1.f.2.2.1,e,No y8.1.f.2.2.2.2.1,No y8.1.f.2.2.2.2.2.1,g] 26,.box ba3_c0 [Aad ba0] 84,.box ba0 [AaM q.2.1,No q.2.2] 86,.row j 26 7 (k).length b,.box b1 AbM 26] O) bu:=al.C1 [3,3] Z;have bh:=B3 [3,3] al bc Z;have b4:Bb a (Ha [.row j 26 7 (k).length b,.box b9 [No y8.1.f.1,d,AaM y8.1.f.2.2.1,e,No y8.1.f.2.2.2.2.1,No y8.1.f.2.2.2.2.2.1,g] 26,.box ba3_c0 [Aad ba0] 84,.box ba0 [AaM q.2.1,No q.2.2] 86,.box b1 AbM 26] O) bu:=bc.C1 [3] Z;have bi:=B3 [3] bc b4 Z;have c:=c.trans (Aa (z.trans (aa.trans (bh.trans bi))));have hT:=hT.trans (z.trans (aa.trans (bh.trans bi)))
  refine AA (_,_,_,_,_) ⟨b4,(bd.mono c),(ar.mono c),(au.mono c),(av.mono c),hT,h⟩
 have hT:=hT.trans (a6.trans (a7.trans (br.trans (ae.trans (y.trans ak)))));rintro⟨aq,ai,aj,af,ac⟩ db ⟨s,b6,aw,ax,ay,hT,h⟩;refine AB ?_;have o:=s.rG H;refine Bx 1 Z<|Ai (Qw 0 Z s Z)<|A8 1 Z<|AQ h ?_ ?_<;>intro b7 h
 ·refine Aj<|Ai (Az 1 Z By.e s Z)<|Af 4 Z s Z (a:=(Bk Z (Bk (aw.mono o).one (Bk Z (Bk (ax.mono o).one (Bk Z (Bk Z (Bk (ay.mono o).one Kq)))))))) fun cw bj az=>Ad<|Ay<|Aq ?_
  cases h
  refine N3<|Dz (.cell Z Aj3 Z By.e (AG (i:=4) bj Z)) ?_;have b8:=bj.AS (i:=0) Z;have ca:=b8.AS (i:=0) Z;have bk:=ca.AS (i:=2) Z;have bl:Bb a (Ha [.box ba0 [AaM ai,No aj] 86,.box ba3_c0 [Aad ba0] 84] O) cw:=bk.C1 [1] Z;have a3:=B3 [1] bk bl Z;have o:=o.trans (Aa (az.trans ((Ak (i:=0) Z).trans ((Ak (i:=0) Z).trans ((Ak (i:=2) Z).trans a3)))));have hT:=hT.trans (az.trans ((Ak (i:=0) Z).trans ((Ak (i:=0) Z).trans ((Ak (i:=2) Z).trans a3))));exact KJ ⟨d,e,g,Z,bl,hT,(aw.mono o),(ax.mono o),(ay.mono o)⟩
 refine Ax<|As<|Bx 2 Z<|Ai (AT (fun _=>OW _ _ (row_one (s.at (i:=0) Z)) _))<|Af 4 Z s Z (a:=(Bk Z (Bk Z (Bk Z (Bk Z (Bk Z (Bk Z (Bk (row_one (s.at (i:=0) Z)) Kq)))))))) fun cx ao a4=>Ad<|Ay ?_
 cases h
 refine N3<|Dz (.cell Z Aj3 Z By.e (AG (i:=4) ao Z)) ?_;have o:=o.trans (Aa a4);have ap:=ao.Du hH (i:=0) Z (b6.mono o);have cb:=ao.AS (i:=0) Z;have cc:=cb.AS (i:=0) Z;have bm:=cc.AS (i:=2) Z;have bn:Bb a (Ha [.box ba0 [AaM ai,No aj] 86,.box ba3_c0 [Aad ba0] 84] O) cx:=bm.C1 [1] Z;have a5:=B3 [1] bm bn Z;have hT:=hT.trans (a4.trans ((Ak (i:=0) Z).trans ((Ak (i:=0) Z).trans ((Ak (i:=2) Z).trans a5))));have ap:=ap.mono (Aa ((Ak (i:=0) Z).trans ((Ak (i:=2) Z).trans a5)));exact KJ ⟨Aac,Aac,af,Z,bn,hT,(AJ.nil _ _),(AJ.nil _ _),ap⟩
def Hs(self:(AaV×Int)->Option (Option (Qv×(AaV×Int))))(a0:AaV×Int):Option (Option (Qv×(AaV×Int))):=
 Qq4 (I8 self (a0.1,a0.2) (9:Int) ([124]:AaV)) (fun a=>ZS a (some none) (fun y9=>some (some (y9.1,(y9.2.1,y9.2.2)))))
theorem Mq{self:(AaV×Int)->Option (Option (Qv×(AaV×Int)))}(hself:∀ {a w:World} {H:PH} (hH:Le H (hp a)) (hU:Gq H) {O:List BS} {a0:AaV×Int} {ba0:Nat} (hL:Bb a (Ha [.box ba0 [AaM a0.1,No a0.2] 86] O) w) {r:Option (Qv×(AaV×Int))} (h:self a0=some r),WI prog 70 [Aad ba0] w (.iface 82 (.agg #[])) (fun v w'=>YK r v (fun r v=>∃ (g:Value) (j:Value) (k:Value),v=.agg #[No r.1.f.1,g,AaM r.1.f.2.2.1,j,No r.1.f.2.2.2.2.1,No r.1.f.2.2.2.2.2.1,k]/\Bb a (Ha [.box ba0 [AaM r.2.1,No r.2.2] 86] O) w'/\Le (fz w (Ha [.box ba0 [AaM a0.1,No a0.2] 86] O)) (fz w' (Ha [.box ba0 [AaM r.2.1,No r.2.2] 86] O))/\AJ .st (gz H a w' (Ha [.box ba0 [AaM r.2.1,No r.2.2] 86] O)) g (r.1.f.2.1)/\AJ .byte (gz H a w' (Ha [.box ba0 [AaM r.2.1,No r.2.2] 86] O)) j (r.1.f.2.2.2.1)/\AJ .Bu (gz H a w' (Ha [.box ba0 [AaM r.2.1,No r.2.2] 86] O)) k (r.1.f.2.2.2.2.2.2)) (Bb a O w'/\Le (fz w (Ha [.box ba0 [AaM a0.1,No a0.2] 86] O)) (fz w' O)))){a w:World}{H:PH}(hH:Le H (hp a))(hU:Gq H){O:List BS}{a0:AaV×Int}{ba0:Nat}(hL:Bb a (Ha [.box ba0 [AaM a0.1,No a0.2] 86] O) w){r:Option (Qv×(AaV×Int))}(h:Hs self a0=some r):
  WI prog 39 [Aad ba0] w (.iface 82 (.agg #[])) (fun v w'=>YK r v (fun r v=>∃ (g:Value) (j:Value) (k:Value),v=.agg #[No r.1.f.1,g,AaM r.1.f.2.2.1,j,No r.1.f.2.2.2.2.1,No r.1.f.2.2.2.2.2.1,k]/\Bb a (Ha [.box ba0 [AaM r.2.1,No r.2.2] 86] O) w'/\Le (fz w (Ha [.box ba0 [AaM a0.1,No a0.2] 86] O)) (fz w' (Ha [.box ba0 [AaM r.2.1,No r.2.2] 86] O))/\AJ .st (gz H a w' (Ha [.box ba0 [AaM r.2.1,No r.2.2] 86] O)) g (r.1.f.2.1)/\AJ .byte (gz H a w' (Ha [.box ba0 [AaM r.2.1,No r.2.2] 86] O)) j (r.1.f.2.2.2.1)/\AJ .Bu (gz H a w' (Ha [.box ba0 [AaM r.2.1,No r.2.2] 86] O)) k (r.1.f.2.2.2.2.2.2)) (Bb a O w'/\Le (fz w (Ha [.box ba0 [AaM a0.1,No a0.2] 86] O)) (fz w' O))):=by
 refine NH 8 [(0,(Aad ba0))] func39 Z Z Z Z Z ?_;have hT:=Le.refl (fz w (Ha [.box ba0 [AaM a0.1,No a0.2] 86] O));refine Aj<|Q1 (t:=84) Z Z hL fun w1 b1 ad l _=>A9 By.e Z ad fun w2 b2 m o _=>Ad<|AI 2 Z<|Aj<|Ai (Ag 1 Z m Z)<|Ar 1 Z ?_;have s:Bb a (Ha [.box ba0 [AaM a0.1,No a0.2] 86,.box b1 [Aad ba0] 84,.box b2 AbM 26] O) w2:=m.C1 [1,2] Z;have p:=B3 [1,2] m s Z;refine Aw h fun x4 af h=>OP (Pq (hself:=hself) (a0:=(a0.1,a0.2)) (a1:=9) (a2:=([124]:AaV)) (O:=(Ha [.box b2 AbM 26] O)) hH hU s af) ?_ ?_
 ·rintro rfl w6 ⟨ag,u⟩;have h:=KH h;refine Ft ?_
  cases h
  refine N4 ?_;have ah:=ag.AS (i:=0) Z;have hT:=hT.trans (l.trans (o.trans (p.trans (u.trans (Ak (i:=0) Z)))));exact LK ⟨ah,hT⟩
 rintro y9 rfl _ w5 ⟨x,y,z,rfl,ai,aa,b,c,d⟩;have h:=KI h;refine Af 2 Z ai Z (a:=(Bk Z (Bk b.one (Bk Z (Bk c.one (Bk Z (Bk Z (Bk d.one Kq)))))))) fun al q e=>Ad<|Ay ?_
 cases h
 refine N3<|Dz (.cell Z Aj3 Z By.e (AG (i:=2) q Z)) ?_;have ab:=q.AS (i:=1) Z;have ac:=ab.AS (i:=1) Z;have hT:=hT.trans (l.trans (o.trans (p.trans (aa.trans (e.trans ((Ak (i:=1) Z).trans (Ak (i:=1) Z)))))));have b:=b.mono (Aa (e.trans ((Ak (i:=1) Z).trans (Ak (i:=1) Z))));have c:=c.mono (Aa (e.trans ((Ak (i:=1) Z).trans (Ak (i:=1) Z))));have d:=d.mono (Aa (e.trans ((Ak (i:=1) Z).trans (Ak (i:=1) Z))));exact KJ ⟨x,y,z,Z,ac,hT,b,c,d⟩
def I9(a0:AaV×Int)(a1:AaV):Option (Option ((AaV×Int))):=
 Qq4 (BP (a0.1,a0.2) a1) (fun a=>if !a.1 then none else some (some ((a.2.1,a.2.2))))
theorem Pr{a w:World}{H:PH}(hH:Le H (hp a)){O:List BS}{a0:AaV×Int}{a1:AaV}{ba0:Nat}(hL:Bb a (Ha [.box ba0 [AaM a0.1,No a0.2] 86] O) w){r:Option ((AaV×Int))}(h:I9 a0 a1=some r):
  WI prog 112 [Aad ba0,AaM a1] w (.iface 82 (.agg #[])) (fun v w'=>YK r v (fun r v=>v=.tuple #[]/\Bb a (Ha [.box ba0 [AaM r.1,No r.2] 86] O) w'/\Le (fz w (Ha [.box ba0 [AaM a0.1,No a0.2] 86] O)) (fz w' (Ha [.box ba0 [AaM r.1,No r.2] 86] O))) (Bb a O w'/\Le (fz w (Ha [.box ba0 [AaM a0.1,No a0.2] 86] O)) (fz w' O))):=by
 refine NH 10 [(0,(Aad ba0)),(1,(AaM a1))] func112 Z Z Z Z Z ?_;have hT:=Le.refl (fz w (Ha [.box ba0 [AaM a0.1,No a0.2] 86] O));refine Bx 2 Z<|Aw h fun f c h=>ES (Cc hH (Ha [] O) (a0.1,a0.2) a1 hL c) ?_;rintro _ g ⟨rfl,d,b⟩;refine A8 1 Z<|B8 h ?_ ?_<;>intro e h
 ·cases h
 refine Ax ?_
 cases h
 refine AfW<|LI ?_;have hT:=hT.trans b;exact KJ ⟨Z,d,hT⟩
def FP(a0:AaV×Int)(a:Int):Option (AaV×(AaV×Int)):=
 AN (0<=a/\a<=(a0.1.length:Int)) (AN (0<=a/\a<=(a0.1.length:Int)) (some ((a0.1.take a.toNat),((a0.1.drop a.toNat),a0.2))))
def IL(a0:AaV×Int)(a1:AaV):Option (AaV×(AaV×Int)):=
 Qq4 (Tc a0.1 a1) (fun a=>if a<0 then(FP a0) (a0.1.length:Int) else(FP a0) a)
theorem PR{e w:World}{H:PH}(hH:Le H (hp e)){O:List BS}{a0:AaV×Int}{a1:AaV}{ba0:Nat}(hL:Bb e (Ha [.box ba0 [AaM a0.1,No a0.2] 86] O) w){r:AaV×(AaV×Int)}(h:IL a0 a1=some r):
  Ok prog 114 [Aad ba0,AaM a1] w (fun v w'=>v=(AaM r.1)/\Bb e (Ha [.box ba0 [AaM r.2.1,No r.2.2] 86] O) w'/\Le (fz w (Ha [.box ba0 [AaM a0.1,No a0.2] 86] O)) (fz w' (Ha [.box ba0 [AaM r.2.1,No r.2.2] 86] O))):=by
 refine Ds (n:=36) [(0,(Aad ba0)),(1,(AaM a1))] func114 Z Z Z Z ?_;have hT:=Le.refl (fz w (Ha [.box ba0 [AaM a0.1,No a0.2] 86] O));refine AI 1 Z<|Bx 1 Z<|Ai (Na Z)<|Ai (Ae Z AjY Z HO.e)<|Ai (Ag 0 Z hL Z)<|Ar 1 Z<|Aw h fun m l h=>AD hL (AcU _ _ (An hL) l) fun s o c b=>A8 1 Z<|B2 Int (fun a=>[(0,(Aad ba0)),(5,No a)]) (fun a wr=>FX e (Ha [.box ba0 [AaM a0.1,No a0.2] 86] O) wr fun Oz=>Le (fz w (Ha [.box ba0 [AaM a0.1,No a0.2] 86] O)) (fz wr Oz)/\(FP a0) a=some r) ?_ ?_
 ·refine AI 2 Z<|AQ h ?_ ?_<;>intro g h
  ·refine Au<|Ar 1 Z<|Ai (Na Z)<|Ai (Ae Z AjY Z HO.e)<|Ai (Ag 0 Z c Z)<|Ai (IP Z)<|Ar 1 Z<|AL ?_;have hT:=hT.trans b;refine AA _ ⟨c,hT,h⟩
  refine Ax ?_;have hT:=hT.trans b;refine AA _ ⟨c,hT,h⟩
 have hT:=hT.trans b;rintro a p ⟨d,hT,h⟩;refine Bx 1 Z<|Ai (Na Z)<|Ai (Ae Z AjY Z HO.e)<|Ai (Ag 0 Z d Z)<|Ar 1 Z<|A2 h fun i h=>Ai (AdL i)<|A8 1 Z<|Bx 2 Z<|Ai (Na Z)<|Ai (Ae Z AjY Z HO.e)<|Ai (Ag 0 Z d Z)<|Ar 1 Z<|A2 h fun j h=>Ai (Aag j)<|Ai (Na Z)<|Ai (Ae Z AjY Z HO.e)<|B5 0 Z Z d Z Z fun q k f=>Ad<|AI 2 Z<|Ay ?_
 cases h
 refine Al Z ?_;have hT:=hT.trans f;exact⟨Z,k,hT⟩
def FQ(self:(AaV×Int)->Option (Option (Qv×(AaV×Int))))(a0:AaV×Int):Option (Option (Qv×(AaV×Int))):=
 Qq4 (BP (a0.1,a0.2) ([33]:AaV)) (fun b=>if b.1 then Qq4 (self (b.2.1,b.2.2)) (fun j=>ZS j (some none) (fun y12=>some (some ((Qv.mk (10:Int) ([]) ([]:AaV) ([]) (0:Int) (0:Int) ([y12.1])),(y12.2.1,y12.2.2))))) else Qq4 (BP (b.2.1,b.2.2) ([40]:AaV)) (fun a=>if a.1 then Qq4 (Hs self (a.2.1,a.2.2)) (fun h=>ZS h (some none) (fun y26=>Qq4 (I9 (y26.2.1,y26.2.2) ([41]:AaV)) (fun i=>ZS i (some none) (fun y37=>some (some (y26.1,(y37.1,y37.2))))))) else Qq4 (BP (a.2.1,a.2.2) ([34]:AaV)) (fun c=>if c.1 then none else Qq4 (BP (c.2.1,c.2.2) ([39]:AaV)) (fun d=>if d.1 then none else Qq4 (BP (d.2.1,d.2.2) ([47]:AaV)) (fun e=>if e.1 then none else Qq4 (IL (e.2.1,e.2.2) ([126,38,124,41]:AaV)) (fun f=>Qq4 (BP (f.2.1,f.2.2) ([126]:AaV)) (fun g=>if !g.1 then some (some ((Qv.mk (1:Int) ([f.1]) ([]:AaV) ([]) (0:Int) (0:Int) ([])),(g.2.1,g.2.2))) else none)))))))
theorem Oo{self:(AaV×Int)->Option (Option (Qv×(AaV×Int)))}(hself:∀ {b w:World} {H:PH} (hH:Le H (hp b)) (hU:Gq H) {O:List BS} {a0:AaV×Int} {ba0:Nat} (hL:Bb b (Ha [.box ba0 [AaM a0.1,No a0.2] 86] O) w) {r:Option (Qv×(AaV×Int))} (h:self a0=some r),WI prog 70 [Aad ba0] w (.iface 82 (.agg #[])) (fun v w'=>YK r v (fun r v=>∃ (u1:Value) (u3:Value) (u6:Value),v=.agg #[No r.1.f.1,u1,AaM r.1.f.2.2.1,u3,No r.1.f.2.2.2.2.1,No r.1.f.2.2.2.2.2.1,u6]/\Bb b (Ha [.box ba0 [AaM r.2.1,No r.2.2] 86] O) w'/\Le (fz w (Ha [.box ba0 [AaM a0.1,No a0.2] 86] O)) (fz w' (Ha [.box ba0 [AaM r.2.1,No r.2.2] 86] O))/\AJ .st (gz H b w' (Ha [.box ba0 [AaM r.2.1,No r.2.2] 86] O)) u1 (r.1.f.2.1)/\AJ .byte (gz H b w' (Ha [.box ba0 [AaM r.2.1,No r.2.2] 86] O)) u3 (r.1.f.2.2.2.1)/\AJ .Bu (gz H b w' (Ha [.box ba0 [AaM r.2.1,No r.2.2] 86] O)) u6 (r.1.f.2.2.2.2.2.2)) (Bb b O w'/\Le (fz w (Ha [.box ba0 [AaM a0.1,No a0.2] 86] O)) (fz w' O)))){b w:World}{H:PH}(hH:Le H (hp b))(hU:Gq H){O:List BS}{a0:AaV×Int}{ba0:Nat}(hL:Bb b (Ha [.box ba0 [AaM a0.1,No a0.2] 86] O) w){r:Option (Qv×(AaV×Int))}(h:FQ self a0=some r):
  WI prog 70 [Aad ba0] w (.iface 82 (.agg #[])) (fun v w'=>YK r v (fun r v=>∃ (u1:Value) (u3:Value) (u6:Value),v=.agg #[No r.1.f.1,u1,AaM r.1.f.2.2.1,u3,No r.1.f.2.2.2.2.1,No r.1.f.2.2.2.2.2.1,u6]/\Bb b (Ha [.box ba0 [AaM r.2.1,No r.2.2] 86] O) w'/\Le (fz w (Ha [.box ba0 [AaM a0.1,No a0.2] 86] O)) (fz w' (Ha [.box ba0 [AaM r.2.1,No r.2.2] 86] O))/\AJ .st (gz H b w' (Ha [.box ba0 [AaM r.2.1,No r.2.2] 86] O)) u1 (r.1.f.2.1)/\AJ .byte (gz H b w' (Ha [.box ba0 [AaM r.2.1,No r.2.2] 86] O)) u3 (r.1.f.2.2.2.1)/\AJ .Bu (gz H b w' (Ha [.box ba0 [AaM r.2.1,No r.2.2] 86] O)) u6 (r.1.f.2.2.2.2.2.2)) (Bb b O w'/\Le (fz w (Ha [.box ba0 [AaM a0.1,No a0.2] 86] O)) (fz w' O))):=by
 refine NH 62 [(0,(Aad ba0))] func70 Z Z Z Z Z ?_;have hT:=Le.refl (fz w (Ha [.box ba0 [AaM a0.1,No a0.2] 86] O));refine Aj<|A9 By.e Z hL fun w1 p a8 k _=>Ad<|AB<|A4<|Bx 1 Z ?_;have a9:Bb b (Ha [.box ba0 [AaM a0.1,No a0.2] 86,.box p AbM 26] O) w1:=a8.C1 [1] Z;have m:=B3 [1] a8 a9 Z;refine Aw h fun x3 cf h=>ES (Cc hH (Ha [.box p AbM 26] O) (a0.1,a0.2) ([33]:AaV) a9 cf) ?_;rintro _ w4 ⟨rfl,ba,o⟩;refine A8 1 Z<|B8 h ?_ ?_<;>intro cg h
 ·refine Bx 1 Z<|Aw h fun x7 ch h=>OP (hself (a0:=(x3.2.1,x3.2.2)) (O:=(Ha [.box p AbM 26] O)) hH hU ba ch) ?_ ?_
  ·rintro rfl w9 ⟨ci,bf⟩;have h:=KH h;refine Ft<|HL<|Ft ?_
   cases h
   refine N4 ?_;have bg:=ci.AS (i:=0) Z;have hT:=hT.trans (k.trans (m.trans (o.trans (bf.trans (Ak (i:=0) Z)))));exact LK ⟨bg,hT⟩
  rintro y12 rfl _ w8 ⟨co,cp,cq,rfl,cj,bh,au,av,aw⟩;have h:=KI h;refine B9 [y12.1] (r:=.Bu) (fun _=>N5 _ _ _ _ _ _ _ _) cj (.c7 (Go.E.Rp.H8 ⟨_,_,Z,Z,⟨_,_,Z,⟨_,Z,au⟩,⟨_,_,Z,Z,⟨_,_,Z,⟨_,Z,av⟩,⟨_,_,Z,Z,⟨_,_,Z,Z,⟨_,Z,aw⟩⟩⟩⟩⟩⟩⟩) .nil) fun ck ct cr bi ax s=>Ai (AT (fun _=>OW _ _ s.one _))<|Af 1 Z bi Z (a:=(Bk Z (Bk Z (Bk Z (Bk Z (Bk Z (Bk Z (Bk s.one Kq)))))))) fun cu ak ab=>Ad<|Ay<|Av<|Aq ?_
  cases h
  refine N3<|Dz (.cell Z Aj3 Z By.e (AG (i:=1) ak Z)) ?_;have bj:=ak.AS (i:=1) Z;have hT:=hT.trans (k.trans (m.trans (o.trans (bh.trans (ax.trans (ab.trans (Ak (i:=1) Z)))))));have s:=s.mono (Aa (ab.trans (Ak (i:=1) Z)));exact KJ ⟨Aac,Aac,ck,Z,bj,hT,(AJ.nil _ _),(AJ.nil _ _),s⟩
 refine Bx 1 Z<|Aw h fun ac bk h=>ES (Cc hH (Ha [.box p AbM 26] O) (x3.2.1,x3.2.2) ([40]:AaV) ba bk) ?_;rintro _ cv ⟨rfl,al,q⟩;refine A8 1 Z<|B8 h ?_ ?_<;>intro bl h
 ·refine Bx 1 Z<|Aw h fun cw bm h=>OP (Mq (hself:=hself) (a0:=(ac.2.1,ac.2.2)) (O:=(Ha [.box p AbM 26] O)) hH hU al bm) ?_ ?_
  ·rintro rfl cx ⟨bn,ay⟩;have h:=KH h;refine Ft<|HL<|Ft ?_
   cases h
   refine N4 ?_;have bo:=bn.AS (i:=0) Z;have hT:=hT.trans (k.trans (m.trans (o.trans (q.trans (ay.trans (Ak (i:=0) Z))))));exact LK ⟨bo,hT⟩
  rintro y26 rfl _ cy ⟨u,x,y,rfl,bp,ad,c,d,e⟩;have h:=KI h;refine A9 By.e Z bp fun cz bb bq g _=>Af 0 Z bq Z (a:=(Bk Z (Bk c.one (Bk Z (Bk d.one (Bk Z (Bk Z (Bk e.one Kq)))))))) fun cl aa j=>Ad ?_;have a:=aa.rG H;refine Bx 1 Z ?_;have am:Bb b (Ha [.box ba0 [AaM y26.2.1,No y26.2.2] 86,.box bb [No y26.1.f.1,u,AaM y26.1.f.2.2.1,x,No y26.1.f.2.2.2.2.1,No y26.1.f.2.2.2.2.2.1,y] 26,.box p AbM 26] O) cl:=aa.C1 [1] Z;have z:=B3 [1] aa am Z;refine Aw h fun c0 br h=>OP (Pr (a0:=(y26.2.1,y26.2.2)) (a1:=([41]:AaV)) (O:=(Ha [.box bb [No y26.1.f.1,u,AaM y26.1.f.2.2.1,x,No y26.1.f.2.2.2.2.1,No y26.1.f.2.2.2.2.2.1,y] 26,.box p AbM 26] O)) hH am br) ?_ ?_
  ·rintro rfl c2 ⟨bs,az⟩;have h:=KH h;refine Ft<|HL<|Ft ?_
   cases h
   refine N4 ?_;have bt:=bs.AS (i:=0) Z;have bu:=bt.AS (i:=0) Z;have hT:=hT.trans (k.trans (m.trans (o.trans (q.trans (ad.trans (g.trans (j.trans (z.trans (az.trans ((Ak (i:=0) Z).trans (Ak (i:=0) Z)))))))))));exact LK ⟨bu,hT⟩
  rintro y37 rfl _ c3 ⟨rfl,an,ae⟩;have h:=KI h;refine Ad<|Aj<|Ai (Az 1 Z By.e an Z) ?_;have c:=c.mono (Aa (g.trans j));have d:=d.mono (Aa (g.trans j));have e:=e.mono (Aa (g.trans j));have a:=a.trans (Aa (z.trans ae));refine Af 2 Z an Z (a:=(Bk Z (Bk (c.mono a).one (Bk Z (Bk (d.mono a).one (Bk Z (Bk Z (Bk (e.mono a).one Kq)))))))) fun c4 ao af=>Ad<|Ay<|Av<|Aq ?_
  cases h
  refine N3<|Dz (.cell Z Aj3 Z By.e (AG (i:=2) ao Z)) ?_;have bv:=ao.AS (i:=1) Z;have bw:=bv.AS (i:=1) Z;have hT:=hT.trans (k.trans (m.trans (o.trans (q.trans (ad.trans (g.trans (j.trans (z.trans (ae.trans (af.trans ((Ak (i:=1) Z).trans (Ak (i:=1) Z))))))))))));have a:=a.trans (Aa (af.trans ((Ak (i:=1) Z).trans (Ak (i:=1) Z))));exact KJ ⟨u,x,y,Z,bw,hT,(c.mono a),(d.mono a),(e.mono a)⟩
 refine Bx 1 Z<|Aw h fun bc bx h=>ES (Cc hH (Ha [.box p AbM 26] O) (ac.2.1,ac.2.2) ([34]:AaV) al bx) ?_;rintro _ c5 ⟨rfl,bz,a2⟩;refine A8 1 Z<|B8 h ?_ ?_<;>intro b0 h
 ·cases h
 refine Bx 1 Z<|Aw h fun bd b2 h=>ES (Cc hH (Ha [.box p AbM 26] O) (bc.2.1,bc.2.2) ([39]:AaV) bz b2) ?_;rintro _ c6 ⟨rfl,b3,a3⟩;refine A8 1 Z<|B8 h ?_ ?_<;>intro b4 h
 ·cases h
 refine Bx 1 Z<|Aw h fun be b5 h=>ES (Cc hH (Ha [.box p AbM 26] O) (bd.2.1,bd.2.2) ([47]:AaV) b3 b5) ?_;rintro _ c8 ⟨rfl,b6,a4⟩;refine A8 1 Z<|B8 h ?_ ?_<;>intro b7 h
 ·cases h
 refine Ax<|A3<|As<|Bx 1 Z<|Aw h fun ap b8 h=>ES (PR (a0:=(be.2.1,be.2.2)) (a1:=([126,38,124,41]:AaV)) (O:=(Ha [.box p AbM 26] O)) hH b6 b8) ?_;rintro _ c9 ⟨rfl,b9,a5⟩;refine A8 1 Z<|AB<|Bx 1 Z<|Aw h fun da ca h=>ES (Cc hH (Ha [.box p AbM 26] O) (ap.2.1,ap.2.2) ([126]:AaV) b9 ca) ?_;rintro _ db ⟨rfl,cb,a6⟩;refine A8 1 Z<|B8 h ?_ ?_<;>intro cc h
 ·refine Bx 1 Z<|B9 [ap.1] (r:=.st) (fun _=>S0 _ Z _) cb (.c1 Z .nil) fun cm dc cs cd a7 t=>Ai (AT (fun _=>WV _ _ t.one _))<|Af 1 Z cd Z (a:=(Bk Z (Bk t.one (AU Z)))) fun dd aq ag=>Ad<|Ay<|Aq ?_
  cases h
  refine N3<|Dz (.cell Z Aj3 Z By.e (AG (i:=1) aq Z)) ?_;have ce:=aq.AS (i:=1) Z;have hT:=hT.trans (k.trans (m.trans (o.trans (q.trans (a2.trans (a3.trans (a4.trans (a5.trans (a6.trans (a7.trans (ag.trans (Ak (i:=1) Z))))))))))));have t:=t.mono (Aa (ag.trans (Ak (i:=1) Z)));exact KJ ⟨cm,Aac,Aac,Z,ce,hT,t,(AJ.nil _ _),(AJ.nil _ _)⟩
 refine Ax<|As ?_
 cases h
def FV:Nat->(AaV×Int)->Option (Option (Qv×(AaV×Int)))
 | 0=>fun _=>none
 | n+1=>FQ (FV n)
def JJ:(AaV×Int)->Option (Option (Qv×(AaV×Int))):=FV 1000
theorem PS(n:Nat):∀ {a w:World} {H:PH} (hH:Le H (hp a)) (hU:Gq H) {O:List BS} {a0:AaV×Int} {ba0:Nat} (hL:Bb a (Ha [.box ba0 [AaM a0.1,No a0.2] 86] O) w) {r:Option (Qv×(AaV×Int))} (h:FV n a0=some r),WI prog 70 [Aad ba0] w (.iface 82 (.agg #[])) (fun v w'=>YK r v (fun r v=>∃ (b:Value) (c:Value) (d:Value),v=.agg #[No r.1.f.1,b,AaM r.1.f.2.2.1,c,No r.1.f.2.2.2.2.1,No r.1.f.2.2.2.2.2.1,d]/\Bb a (Ha [.box ba0 [AaM r.2.1,No r.2.2] 86] O) w'/\Le (fz w (Ha [.box ba0 [AaM a0.1,No a0.2] 86] O)) (fz w' (Ha [.box ba0 [AaM r.2.1,No r.2.2] 86] O))/\AJ .st (gz H a w' (Ha [.box ba0 [AaM r.2.1,No r.2.2] 86] O)) b (r.1.f.2.1)/\AJ .byte (gz H a w' (Ha [.box ba0 [AaM r.2.1,No r.2.2] 86] O)) c (r.1.f.2.2.2.1)/\AJ .Bu (gz H a w' (Ha [.box ba0 [AaM r.2.1,No r.2.2] 86] O)) d (r.1.f.2.2.2.2.2.2)) (Bb a O w'/\Le (fz w (Ha [.box ba0 [AaM a0.1,No a0.2] 86] O)) (fz w' O))):=by
 induction n with
 | zero=>intros;rename_i h;cases h
 | succ n ih=>exact @Oo (FV n) ih
theorem QW:∀ {a w:World} {H:PH} (hH:Le H (hp a)) (hU:Gq H) {O:List BS} {a0:AaV×Int} {ba0:Nat} (hL:Bb a (Ha [.box ba0 [AaM a0.1,No a0.2] 86] O) w) {r:Option (Qv×(AaV×Int))} (h:JJ a0=some r),WI prog 70 [Aad ba0] w (.iface 82 (.agg #[])) (fun v w'=>YK r v (fun r v=>∃ (b:Value) (c:Value) (d:Value),v=.agg #[No r.1.f.1,b,AaM r.1.f.2.2.1,c,No r.1.f.2.2.2.2.1,No r.1.f.2.2.2.2.2.1,d]/\Bb a (Ha [.box ba0 [AaM r.2.1,No r.2.2] 86] O) w'/\Le (fz w (Ha [.box ba0 [AaM a0.1,No a0.2] 86] O)) (fz w' (Ha [.box ba0 [AaM r.2.1,No r.2.2] 86] O))/\AJ .st (gz H a w' (Ha [.box ba0 [AaM r.2.1,No r.2.2] 86] O)) b (r.1.f.2.1)/\AJ .byte (gz H a w' (Ha [.box ba0 [AaM r.2.1,No r.2.2] 86] O)) c (r.1.f.2.2.2.1)/\AJ .Bu (gz H a w' (Ha [.box ba0 [AaM r.2.1,No r.2.2] 86] O)) d (r.1.f.2.2.2.2.2.2)) (Bb a O w'/\Le (fz w (Ha [.box ba0 [AaM a0.1,No a0.2] 86] O)) (fz w' O))):=PS 1000
def Jy(_a0:Qv)(_a1:Int×Int):Option (Qv×(Int×Int)):=
 Qq4 (Cn (1:Int) (-1:Int)) (fun a=>some ((Qv.mk (0:Int) ([]) ([]:AaV) ([]) (0:Int) (0:Int) ([])),(a.1,a.2)))
theorem Qn{a w:World}{H:PH}(hH:Le H (hp a)){O:List BS}{a0:Qv}{a1:Int×Int}{ba0:Nat}{va0_1:Value}{xsa0_1:List Value}{va0_3:Value}{xsa0_3:List Value}{va0_6:Value}{xsa0_6:List Value}{ba1:Nat}(hL:Bb a (Ha [.box ba0 [No a0.f.1,va0_1,AaM a0.f.2.2.1,va0_3,No a0.f.2.2.2.2.1,No a0.f.2.2.2.2.2.1,va0_6] 26,.row va0_1 9 1 (a0.f.2.1).length xsa0_1,.row va0_3 5 1 (a0.f.2.2.2.1).length xsa0_3,.row va0_6 26 7 (a0.f.2.2.2.2.2.2).length xsa0_6,.box ba1 [No a1.1,No a1.2] 28] O) w)(_hea0_1:AH .st (gz H a w (Ha [.box ba0 [No a0.f.1,va0_1,AaM a0.f.2.2.1,va0_3,No a0.f.2.2.2.2.1,No a0.f.2.2.2.2.2.1,va0_6] 26,.row va0_1 9 1 (a0.f.2.1).length xsa0_1,.row va0_3 5 1 (a0.f.2.2.2.1).length xsa0_3,.row va0_6 26 7 (a0.f.2.2.2.2.2.2).length xsa0_6,.box ba1 [No a1.1,No a1.2] 28] O)) (a0.f.2.1) xsa0_1)(_hea0_3:AH .byte (gz H a w (Ha [.box ba0 [No a0.f.1,va0_1,AaM a0.f.2.2.1,va0_3,No a0.f.2.2.2.2.1,No a0.f.2.2.2.2.2.1,va0_6] 26,.row va0_1 9 1 (a0.f.2.1).length xsa0_1,.row va0_3 5 1 (a0.f.2.2.2.1).length xsa0_3,.row va0_6 26 7 (a0.f.2.2.2.2.2.2).length xsa0_6,.box ba1 [No a1.1,No a1.2] 28] O)) (a0.f.2.2.2.1) xsa0_3)(_hea0_6:AH .Bu (gz H a w (Ha [.box ba0 [No a0.f.1,va0_1,AaM a0.f.2.2.1,va0_3,No a0.f.2.2.2.2.1,No a0.f.2.2.2.2.2.1,va0_6] 26,.row va0_1 9 1 (a0.f.2.1).length xsa0_1,.row va0_3 5 1 (a0.f.2.2.2.1).length xsa0_3,.row va0_6 26 7 (a0.f.2.2.2.2.2.2).length xsa0_6,.box ba1 [No a1.1,No a1.2] 28] O)) (a0.f.2.2.2.2.2.2) xsa0_6){r:Qv×(Int×Int)}(h:Jy a0 a1=some r):
  OkF prog 38 [Aad ba0,Aad ba1] (.panicking (pch (.iface 82 (.agg #[])))) (.panicking (Ach (.iface 82 (.agg #[])))) w (fun w'=>∃ (b:Value) (c:Value) (d:Value),Bb a (Ha [.box ba0 [No r.1.f.1,b,AaM r.1.f.2.2.1,c,No r.1.f.2.2.2.2.1,No r.1.f.2.2.2.2.2.1,d] 26,.box ba1 [No r.2.1,No r.2.2] 28] O) w'/\Le (fz w (Ha [.box ba0 [No a0.f.1,va0_1,AaM a0.f.2.2.1,va0_3,No a0.f.2.2.2.2.1,No a0.f.2.2.2.2.2.1,va0_6] 26,.row va0_1 9 1 (a0.f.2.1).length xsa0_1,.row va0_3 5 1 (a0.f.2.2.2.1).length xsa0_3,.row va0_6 26 7 (a0.f.2.2.2.2.2.2).length xsa0_6,.box ba1 [No a1.1,No a1.2] 28] O)) (fz w' (Ha [.box ba0 [No r.1.f.1,b,AaM r.1.f.2.2.1,c,No r.1.f.2.2.2.2.1,No r.1.f.2.2.2.2.2.1,d] 26,.box ba1 [No r.2.1,No r.2.2] 28] O))/\AJ .st (gz H a w' (Ha [.box ba0 [No r.1.f.1,b,AaM r.1.f.2.2.1,c,No r.1.f.2.2.2.2.1,No r.1.f.2.2.2.2.2.1,d] 26,.box ba1 [No r.2.1,No r.2.2] 28] O)) b (r.1.f.2.1)/\AJ .byte (gz H a w' (Ha [.box ba0 [No r.1.f.1,b,AaM r.1.f.2.2.1,c,No r.1.f.2.2.2.2.1,No r.1.f.2.2.2.2.2.1,d] 26,.box ba1 [No r.2.1,No r.2.2] 28] O)) c (r.1.f.2.2.2.1)/\AJ .Bu (gz H a w' (Ha [.box ba0 [No r.1.f.1,b,AaM r.1.f.2.2.1,c,No r.1.f.2.2.2.2.1,No r.1.f.2.2.2.2.2.1,d] 26,.box ba1 [No r.2.1,No r.2.2] 28] O)) d (r.1.f.2.2.2.2.2.2)):=by
 refine To (pv:=.iface 82 (.agg #[])) (k:=16) [(0,(Aad ba0)),(1,(Aad ba1))] func38 Z Z Z Z Z Z Z .yes (Am Z) ?_;have hT:=Le.refl (fz w (Ha [.box ba0 [No a0.f.1,va0_1,AaM a0.f.2.2.1,va0_3,No a0.f.2.2.2.2.1,No a0.f.2.2.2.2.2.1,va0_6] 26,.row va0_1 9 1 (a0.f.2.1).length xsa0_1,.row va0_3 5 1 (a0.f.2.2.2.1).length xsa0_3,.row va0_6 26 7 (a0.f.2.2.2.2.2.2).length xsa0_6,.box ba1 [No a1.1,No a1.2] 28] O));refine Bx 1 Z<|Ai Ahy<|Ad<|Fq<|Bx 1 Z<|Ai (AdR Z)<|Ar 3 Z<|A9 Agg.e Z hL fun w2 b2 q g _=>Af 0 Z q Z (a:=Kq) fun w3 e j=>A8 1 Z<|AI 1 Z<|Fq<|Au<|Ai (AT (fun _=>P4 _))<|Aw h fun x4 s h=>AD e (CE _ _ (An e) s) fun w5 z t l=>Af 1 Z t Z fun w6 u m=>Af 5 Z u Z fun w7 v n=>AL ?_
 cases h
 refine LI ?_;have x:=v.AS (i:=0) Z;have y:=x.AS (i:=1) Z;have o:=y.AS (i:=1) Z;have p:=o.AS (i:=1) Z;have hT:=hT.trans (g.trans (j.trans (l.trans (m.trans (n.trans ((Ak (i:=0) Z).trans ((Ak (i:=1) Z).trans ((Ak (i:=1) Z).trans (Ak (i:=1) Z)))))))));exact⟨Aac,Aac,Aac,p,hT,(AJ.nil _ _),(AJ.nil _ _),(AJ.nil _ _)⟩
def Ip(_a0:Qv)(_a1:Int×Int):Option (Qv×(Int×Int)):=
 Qq4 (Cn (1:Int) (-1:Int)) (fun a=>some ((Qv.mk (0:Int) ([]) ([]:AaV) ([]) (0:Int) (0:Int) ([])),(a.1,a.2)))
theorem OH{a w:World}{H:PH}(hH:Le H (hp a)){O:List BS}{a0:Qv}{a1:Int×Int}{ba0:Nat}{va0_1 va0_3 va0_6:Value}{ba1:Nat}(hL:Bb a (Ha [.box ba0 [No a0.f.1,va0_1,AaM a0.f.2.2.1,va0_3,No a0.f.2.2.2.2.1,No a0.f.2.2.2.2.2.1,va0_6] 26,.box ba1 [No a1.1,No a1.2] 28] O) w)(_ha0_1:AJ .st (gz H a w (Ha [.box ba0 [No a0.f.1,va0_1,AaM a0.f.2.2.1,va0_3,No a0.f.2.2.2.2.1,No a0.f.2.2.2.2.2.1,va0_6] 26,.box ba1 [No a1.1,No a1.2] 28] O)) va0_1 (a0.f.2.1))(_ha0_3:AJ .byte (gz H a w (Ha [.box ba0 [No a0.f.1,va0_1,AaM a0.f.2.2.1,va0_3,No a0.f.2.2.2.2.1,No a0.f.2.2.2.2.2.1,va0_6] 26,.box ba1 [No a1.1,No a1.2] 28] O)) va0_3 (a0.f.2.2.2.1))(_ha0_6:AJ .Bu (gz H a w (Ha [.box ba0 [No a0.f.1,va0_1,AaM a0.f.2.2.1,va0_3,No a0.f.2.2.2.2.1,No a0.f.2.2.2.2.2.1,va0_6] 26,.box ba1 [No a1.1,No a1.2] 28] O)) va0_6 (a0.f.2.2.2.2.2.2)){r:Qv×(Int×Int)}(h:Ip a0 a1=some r):
  OkF prog 38 [Aad ba0,Aad ba1] (.panicking (pch (.iface 82 (.agg #[])))) (.panicking (Ach (.iface 82 (.agg #[])))) w (fun w'=>∃ (b:Value) (c:Value) (d:Value),Bb a (Ha [.box ba0 [No r.1.f.1,b,AaM r.1.f.2.2.1,c,No r.1.f.2.2.2.2.1,No r.1.f.2.2.2.2.2.1,d] 26,.box ba1 [No r.2.1,No r.2.2] 28] O) w'/\Le (fz w (Ha [.box ba0 [No a0.f.1,va0_1,AaM a0.f.2.2.1,va0_3,No a0.f.2.2.2.2.1,No a0.f.2.2.2.2.2.1,va0_6] 26,.box ba1 [No a1.1,No a1.2] 28] O)) (fz w' (Ha [.box ba0 [No r.1.f.1,b,AaM r.1.f.2.2.1,c,No r.1.f.2.2.2.2.1,No r.1.f.2.2.2.2.2.1,d] 26,.box ba1 [No r.2.1,No r.2.2] 28] O))/\AJ .st (gz H a w' (Ha [.box ba0 [No r.1.f.1,b,AaM r.1.f.2.2.1,c,No r.1.f.2.2.2.2.1,No r.1.f.2.2.2.2.2.1,d] 26,.box ba1 [No r.2.1,No r.2.2] 28] O)) b (r.1.f.2.1)/\AJ .byte (gz H a w' (Ha [.box ba0 [No r.1.f.1,b,AaM r.1.f.2.2.1,c,No r.1.f.2.2.2.2.1,No r.1.f.2.2.2.2.2.1,d] 26,.box ba1 [No r.2.1,No r.2.2] 28] O)) c (r.1.f.2.2.2.1)/\AJ .Bu (gz H a w' (Ha [.box ba0 [No r.1.f.1,b,AaM r.1.f.2.2.1,c,No r.1.f.2.2.2.2.1,No r.1.f.2.2.2.2.2.1,d] 26,.box ba1 [No r.2.1,No r.2.2] 28] O)) d (r.1.f.2.2.2.2.2.2)):=by
 refine To (pv:=.iface 82 (.agg #[])) (k:=16) [(0,(Aad ba0)),(1,(Aad ba1))] func38 Z Z Z Z Z Z Z .yes (Am Z) ?_;have hT:=Le.refl (fz w (Ha [.box ba0 [No a0.f.1,va0_1,AaM a0.f.2.2.1,va0_3,No a0.f.2.2.2.2.1,No a0.f.2.2.2.2.2.1,va0_6] 26,.box ba1 [No a1.1,No a1.2] 28] O));refine Bx 1 Z<|Ai Ahy<|Ad<|Fq<|Bx 1 Z<|Ai (AdR Z)<|Ar 3 Z<|A9 Agg.e Z hL fun x y o g _=>Af 0 Z o Z (a:=Kq) fun z e j=>A8 1 Z<|AI 1 Z<|Fq<|Au<|Ai (AT (fun _=>P4 _))<|Aw h fun x4 p h=>AD e (CE _ _ (An e) p) fun w5 v q l=>Af 1 Z q Z fun w6 s m=>Af 2 Z s Z fun w7 t n=>AL ?_
 cases h
 refine LI ?_;have u:=t.AS (i:=0) Z;have hT:=hT.trans (g.trans (j.trans (l.trans (m.trans (n.trans (Ak (i:=0) Z))))));exact⟨Aac,Aac,Aac,u,hT,(AJ.nil _ _),(AJ.nil _ _),(AJ.nil _ _)⟩
def JK(a0:Qv)(a1:Int×Int):Option (Qv×(Int×Int)):=
 some (a0,(a1.1,a1.2))
theorem QX{a w:World}{H:PH}(_hH:Le H (hp a)){O:List BS}{a0:Qv}{a1:Int×Int}{ba0:Nat}{va0_1 va0_3 va0_6:Value}{ba1:Nat}(hL:Bb a (Ha [.box ba0 [No a0.f.1,va0_1,AaM a0.f.2.2.1,va0_3,No a0.f.2.2.2.2.1,No a0.f.2.2.2.2.2.1,va0_6] 26,.box ba1 [No a1.1,No a1.2] 28] O) w)(g:AJ .st (gz H a w (Ha [.box ba0 [No a0.f.1,va0_1,AaM a0.f.2.2.1,va0_3,No a0.f.2.2.2.2.1,No a0.f.2.2.2.2.2.1,va0_6] 26,.box ba1 [No a1.1,No a1.2] 28] O)) va0_1 (a0.f.2.1))(i:AJ .byte (gz H a w (Ha [.box ba0 [No a0.f.1,va0_1,AaM a0.f.2.2.1,va0_3,No a0.f.2.2.2.2.1,No a0.f.2.2.2.2.2.1,va0_6] 26,.box ba1 [No a1.1,No a1.2] 28] O)) va0_3 (a0.f.2.2.2.1))(j:AJ .Bu (gz H a w (Ha [.box ba0 [No a0.f.1,va0_1,AaM a0.f.2.2.1,va0_3,No a0.f.2.2.2.2.1,No a0.f.2.2.2.2.2.1,va0_6] 26,.box ba1 [No a1.1,No a1.2] 28] O)) va0_6 (a0.f.2.2.2.2.2.2)){r:Qv×(Int×Int)}(h:JK a0 a1=some r):
  OkF prog 38 [Aad ba0,Aad ba1] .returning .returning w (fun w'=>∃ (b:Value) (c:Value) (d:Value),Bb a (Ha [.box ba0 [No r.1.f.1,b,AaM r.1.f.2.2.1,c,No r.1.f.2.2.2.2.1,No r.1.f.2.2.2.2.2.1,d] 26,.box ba1 [No r.2.1,No r.2.2] 28] O) w'/\Le (fz w (Ha [.box ba0 [No a0.f.1,va0_1,AaM a0.f.2.2.1,va0_3,No a0.f.2.2.2.2.1,No a0.f.2.2.2.2.2.1,va0_6] 26,.box ba1 [No a1.1,No a1.2] 28] O)) (fz w' (Ha [.box ba0 [No r.1.f.1,b,AaM r.1.f.2.2.1,c,No r.1.f.2.2.2.2.1,No r.1.f.2.2.2.2.2.1,d] 26,.box ba1 [No r.2.1,No r.2.2] 28] O))/\AJ .st (gz H a w' (Ha [.box ba0 [No r.1.f.1,b,AaM r.1.f.2.2.1,c,No r.1.f.2.2.2.2.1,No r.1.f.2.2.2.2.2.1,d] 26,.box ba1 [No r.2.1,No r.2.2] 28] O)) b (r.1.f.2.1)/\AJ .byte (gz H a w' (Ha [.box ba0 [No r.1.f.1,b,AaM r.1.f.2.2.1,c,No r.1.f.2.2.2.2.1,No r.1.f.2.2.2.2.2.1,d] 26,.box ba1 [No r.2.1,No r.2.2] 28] O)) c (r.1.f.2.2.2.1)/\AJ .Bu (gz H a w' (Ha [.box ba0 [No r.1.f.1,b,AaM r.1.f.2.2.1,c,No r.1.f.2.2.2.2.1,No r.1.f.2.2.2.2.2.1,d] 26,.box ba1 [No r.2.1,No r.2.2] 28] O)) d (r.1.f.2.2.2.2.2.2)):=by
 refine To (pv:=.iface 82 (.agg #[])) (k:=16) [(0,(Aad ba0)),(1,(Aad ba1))] func38 Z Z Z Z Z Z Z .no (Am Z) ?_;have hT:=Le.refl (fz w (Ha [.box ba0 [No a0.f.1,va0_1,AaM a0.f.2.2.1,va0_3,No a0.f.2.2.2.2.1,No a0.f.2.2.2.2.2.1,va0_6] 26,.box ba1 [No a1.1,No a1.2] 28] O));have e:=hL.rG H;refine Bx 1 Z<|Ai AiN<|Ad<|G5<|Ax ?_
 cases h
 refine LI ⟨va0_1,va0_3,va0_6,hL,hT,(g.mono e),(i.mono e),(j.mono e)⟩
def Ll(y22:Qv×(AaV×Int)):Option (Qv×(Int×Int)):=
 Qq4 (JK y22.1 (0,0)) (fun a=>some (a.1,(a.2.1,a.2.2)))
def Mr(a0:AaV):Option (Qv×(Int×Int)):=
 if 200<(a0.length:Int) then Qq4 (Cn (3:Int) (-1:Int)) (fun d=>some ((Qv.mk (0:Int) ([]) ([]:AaV) ([]) (0:Int) (0:Int) ([])),(d.1,d.2))) else Qq4 (Hs JJ (a0,0)) (fun e=>ZS e (Qq4 (Jy (Qv.mk (0:Int) ([]:List AaV) ([]:AaV) ([]:AaV) (0:Int) (0:Int) ([]:List Qv)) (0,0)) (fun a=>some (a.1,(a.2.1,a.2.2)))) (fun y22=>Qq4 (Hz y22.1) (fun b=>if(((!decide (b.2.1=0/\b.2.2=0))||(!decide (y22.2.1=([]:AaV))))||(!decide (b.1=a0))) then Qq4 (Ip y22.1 (0,0)) (fun c=>some (c.1,(c.2.1,c.2.2))) else(Ll y22))))
section
variable(w:World)(H:PH)(hH:Le H (hp w)) include hH
theorem Qd(hU:Gq H){a0:AaV}{r:Qv×(Int×Int)}(h:Mr a0=some r):
  Qqv 15 [AaM a0] w (fun v w'=>∃ u0 u1 u2,v=.tuple #[.agg #[No r.1.f.1,u0,AaM r.1.f.2.2.1,u1,No r.1.f.2.2.2.2.1,No r.1.f.2.2.2.2.2.1,u2],.agg #[No r.2.1,No r.2.2]]/\AJ .st (un H (nw w w')) u0 (r.1.f.2.1)/\AJ .byte (un H (nw w w')) u1 (r.1.f.2.2.2.1)/\AJ .Bu (un H (nw w w')) u2 (r.1.f.2.2.2.2.2.2)):=by
 refine Aci (n:=42) [(0,(AaM a0))] func15 Z Z Z Z ?_;have hL:=Bb.start w;refine Aj<|A9 By.e Z hL fun w1 b1 b6 ct _=>A9 AE.e Z b6 fun w2 b2 ar cu _=>Ad<|AB<|Bx 1 Z<|Ai (IP Z)<|A8 1 Z<|AQ h ?_ ?_<;>intro b7 h
 ·refine Aj<|Ai (AT (fun _=>P4 _))<|Aw h fun x5 b8 h=>AD ar (CE _ _ (An ar) b8) fun w6 c0 b9 cv=>Af 1 Z b9 Z fun w7 ca cw=>Af 0 Z ca Z fun w8 au cx=>Ad<|Ay<|Aq ?_
  cases h
  refine Ad1<|Bo (.cell Z Aj3 Z By.e (AG (i:=1) au Z)) (.cell Z Ajx Z AE.e (AG (i:=0) au Z)) ⟨au.ext,_,_,_,Z,(AJ.nil _ _),(AJ.nil _ _),(AJ.nil _ _)⟩
 refine Ax<|As<|Bx 1 Z<|AfX Z<|Ad<|Bx 1 Z<|Ai (AT (fun _=>Agl _ Z _))<|CD (t:=86) Z Z ar fun c1 z bl cd _=>A8 1 Z<|Bx 1 Z<|Aw h fun c2 bm h=>OP (Mq (hself:=QW) (a0:=(a0,0)) (O:=[.box b2 [No 0,No 0] 28,.box b1 AbM 26]) hH hU bl bm) ?_ ?_
 ·rintro rfl bj ⟨bn,ce⟩;have h:=KH h;refine Ft ?_;obtain⟨bo,cf,af⟩:=DI .st H 9 bn;obtain⟨bp,be,ag⟩:=DI .byte H 5 bo;obtain⟨av,an,ah⟩:=DI .Bu H 26 bp;have ai:Bb w [.row Aac 9 1 (([]:List AaV)).length ([]),.row Aac 5 1 (([]:AaV)).length ([]),.row Aac 26 7 (([]:List Qv)).length ([]),.box b2 [No 0,No 0] 28,.box b1 AbM 26] bj:=av.C1 [1,2] Z;have q:=B3 [1,2] av ai Z;have aw:Bb w [.box b1 AbM 26,.row Aac 9 1 (([]:List AaV)).length ([]),.row Aac 5 1 (([]:AaV)).length ([]),.row Aac 26 7 (([]:List Qv)).length ([]),.box b2 [No 0,No 0] 28] bj:=ai.C1 [4] Z;have u:=B3 [4] ai aw Z;refine Aw h fun c3 bq h=>?_;have af:=af.mono (Aa (be.trans (an.trans (q.trans u))));have ag:=ag.mono (Aa (an.trans (q.trans u)))
  have ah:=ah.mono (Aa (q.trans u));refine Abo (Qn (a0:=(Qv.mk (0:Int) ([]:List AaV) ([]:AaV) ([]:AaV) (0:Int) (0:Int) ([]:List Qv))) (a1:=(0,0)) (O:=[]) hH aw af ag ah bq) ?_;rintro c4 ⟨cg,ch,ci,aj,cj,ax,ay,a2⟩ az frz
  cases h
  exact⟨_,Vf Z (.cell Z Aj3 Z By.e (AG (i:=0) aj Z)) (.cell Z Ajx Z AE.e (AG (i:=1) aj Z)) frz,aj.ext,_,_,_,Z,(ax.mono  EE),(ay.mono  EE),(a2.mono  EE)⟩
 rintro y22 rfl _ c5 ⟨l,m,o,rfl,br,ck,c,d,e⟩;have h:=KI h;refine Af 2 Z br Z (a:=(Bk Z (Bk c.one (Bk Z (Bk d.one (Bk Z (Bk Z (Bk e.one Kq)))))))) fun c6 x y=>Ad<|B2 Unit (fun(_:Unit)=>[(2,(Aad b1)),(3,(Aad b2))]) (fun(_:Unit) wr=>FX w [.box z [AaM y22.2.1,No y22.2.2] 86,.box b2 [No 0,No 0] 28,.box b1 [No y22.1.f.1,l,AaM y22.1.f.2.2.1,m,No y22.1.f.2.2.2.2.1,No y22.1.f.2.2.2.2.2.1,o] 26] wr fun Oz=>AJ .st (gz H w wr Oz) l (y22.1.f.2.1)/\AJ .byte (gz H w wr Oz) m (y22.1.f.2.2.2.1)/\AJ .Bu (gz H w wr Oz) o (y22.1.f.2.2.2.2.2.2)/\(Ll y22)=some r) ?_ ?_
 ·have a:=x.rG H;refine Aj<|Ai (Az 2 Z By.e x Z)<|Aw h fun k bs h=>?_;have c:=c.mono (Aa y);have d:=d.mono (Aa y);have e:=e.mono (Aa y);refine AD x (Lh _ _ (An x) (hU.mono  Ah) y22.1 (c.mono a) (d.mono a) (e.mono a) bs) fun c7 cy bt ao=>Ar 3 Z<|A9 AE.e Z bt fun c8 bk bu ap _=>Ar 1 Z<|Af 0 Z bu Z fun cb p aq=>Ad<|Aj<|Ai (Az 0 Z AE.e p Z)<|Ai (AT (fun _=>BM _))<|Ai (JO Jh (Nc _ _ _ _))<|Ar 1 Z<|OU 6 32 (.bool ((!decide (k.2.1=0/\k.2.2=0))||(!decide (y22.2.1=([]:AaV))))) (fun a3=>?_) ?_
  ·refine IG (s:=26) Z (fun b=>?_) (fun b=>?_)
   ·iterate 5 refine Ao b ?_
    refine Ai (AK b Z)<|a3.to 5 (Wq b) Z Z
   refine Ab b<|Ai (Am Z)<|Ab b<|Ai (Na Z)<|Ab b<|Ai (Ae Z AjY Z HO.e)<|Ab b<|Ai (Ag 1 Z p Z)<|Ab b<|Ai (Ss Z Z)<|Ai (AO b Z)<|a3.to 5 (Wr b) Z Z
  refine Ar 1 Z<|OU 4 37 (.bool (((!decide (k.2.1=0/\k.2.2=0))||(!decide (y22.2.1=([]:AaV))))||(!decide (k.1=a0)))) (fun a4=>?_) ?_
  ·refine IG (s:=33) Z (fun g=>?_) (fun g=>?_)
   ·iterate 3 refine Ao g ?_
    refine Ai (AK g Z)<|a4.to 3 (Wq g) Z Z
   refine Ab g<|Ai (Am Z)<|Ab g<|Ai (Am Z)<|Ab g<|Ai (Ss Z Z)<|Ai (AO g Z)<|a4.to 3 (Wr g) Z Z
  refine Ad<|B8 h ?_ ?_<;>intro bv h
  ·refine Au<|Ai (AT (fun _=>Agk _))<|Ai (AiM Z Aka Z)<|AfU<|Pz ?_;have a5:Bb w [.box b1 [No y22.1.f.1,l,AaM y22.1.f.2.2.1,m,No y22.1.f.2.2.2.2.1,No y22.1.f.2.2.2.2.2.1,o] 26,.box b2 [No 0,No 0] 28,.box bk [No k.2.1,No k.2.2] 28,.box z [AaM y22.2.1,No y22.2.2] 86] cb:=p.C1 [2,3] Z;have bf:=B3 [2,3] p a5 Z;refine Aw h fun c9 bw h=>?_;have a:=a.trans (Aa (ao.trans (ap.trans (aq.trans bf))));refine Abo (OH (a0:=y22.1) (a1:=(0,0)) (O:=[.box bk [No k.2.1,No k.2.2] 28,.box z [AaM y22.2.1,No y22.2.2] 86]) hH a5 (c.mono a) (d.mono a) (e.mono a) bw) ?_;rintro da ⟨cl,cm,cn,ak,co,a6,a7,a8⟩ az frz
   cases h
   exact⟨_,Vf Z (.cell Z Aj3 Z By.e (AG (i:=0) ak Z)) (.cell Z Ajx Z AE.e (AG (i:=1) ak Z)) frz,ak.ext,_,_,_,Z,(a6.mono  EE),(a7.mono  EE),(a8.mono  EE)⟩
  refine Ax ?_;have bx:=p.AS (i:=0) Z;have a:=a.trans (Aa (ao.trans (ap.trans (aq.trans (Ak (i:=0) Z)))));refine AA () ⟨bx,(c.mono a),(d.mono a),(e.mono a),h⟩
 rintro _ cz ⟨al,aa,ab,ac,h⟩;have j:=al.rG H;refine Aj<|Ai (Az 2 Z By.e al Z)<|Ai (AT (fun _=>BM _))<|Af 2 Z al Z (a:=(Bk Z (Bk (aa.mono j).one (Bk Z (Bk (ab.mono j).one (Bk Z (Bk Z (Bk (ac.mono j).one Kq)))))))) fun db bz bg=>Af 1 Z bz Z fun cc a9 bh=>Ad<|Ay ?_;have ba:Bb w [.box b1 [No y22.1.f.1,l,AaM y22.1.f.2.2.1,m,No y22.1.f.2.2.2.2.1,No y22.1.f.2.2.2.2.2.1,o] 26,.box b2 [No 0,No 0] 28,.box z [AaM y22.2.1,No y22.2.2] 86] cc:=a9.C1 [1,2] Z;have bi:=B3 [1,2] a9 ba Z;refine Aw h fun dc b0 h=>?_;have j:=j.trans (Aa (bg.trans (bh.trans bi)));refine AfY (QX (a0:=y22.1) (a1:=(0,0)) (O:=[.box z [AaM y22.2.1,No y22.2.2] 86]) hH ba (aa.mono j) (ab.mono j) (ac.mono j) b0) ?_;rintro dd ⟨cp,cq,cr,am,cs,bb,bc,bd⟩ az frz
 cases h
 exact⟨_,Vf Z (.cell Z Aj3 Z By.e (AG (i:=0) am Z)) (.cell Z Ajx Z AE.e (AG (i:=1) am Z)) frz,am.ext,_,_,_,Z,(bb.mono  EE),(bc.mono  EE),(bd.mono  EE)⟩
def GF(a:Bool):Option Bool:=
 some a
def MK:Option Bool:=
 Qq4 (Rk ([111,120]:AaV)) (fun c=>Qq4 (Hz (Qv.mk (10:Int) ([]) ([]:AaV) ([]) (0:Int) (0:Int) ([c]))) (fun o=>Qq4 (Mr ([33,111,120]:AaV)) (fun d=>AN ([(111:UInt8),(120:UInt8)]≠[]) (Qq4 (Nf (1:Int)) (fun p=>AN ([(99:UInt8),(111:UInt8),(119:UInt8)]≠[]) (Qq4 (Nf (2:Int)) (fun q=>Qq4 (Jr ([([(111:UInt8),(120:UInt8)],p),([(99:UInt8),(111:UInt8),(119:UInt8)],q)])) (fun a=>Qq4 (Cy ((a.1.1.1,a.1.1.2),(a.1.2.1.1,a.1.2.1.2),a.1.2.2) (Qv.mk (10:Int) ([]) ([]:AaV) ([]) (0:Int) (0:Int) ([c])) ([true,true])) (fun e=>Qq4 (Cy ((a.1.1.1,a.1.1.2),(a.1.2.1.1,a.1.2.1.2),a.1.2.2) (Qv.mk (10:Int) ([]) ([]:AaV) ([]) (0:Int) (0:Int) ([c])) ([true,false])) (fun f=>Qq4 (Hq ((a.1.1.1,a.1.1.2),(a.1.2.1.1,a.1.2.1.2),a.1.2.2) (1:Int) (0:Int) (2:Int) ([false,true])) (fun g=>Qq4 (Hq ((a.1.1.1,a.1.1.2),(a.1.2.1.1,a.1.2.1.2),a.1.2.2) (1:Int) (0:Int) (2:Int) ([true,false])) (fun h=>Qq4 (Mr ([33,40,97,124,33,98,41]:AaV)) (fun i=>Qq4 (HA i.1) (fun j=>Qq4 (Hz j.1) (fun k=>if o.2.1=0 then if d.2.1=0 then if a.2.1=0 then if e.2.1=0 then if f.2.1=0 then if g.2.1=0 then if i.2.1=0 then if j.2.1=0 then if k.2.1=0 then(if o.1=([33,111,120]:AaV) then Qq4 (EM d.1 (Qv.mk (10:Int) ([]) ([]:AaV) ([]) (0:Int) (0:Int) ([c]))) (fun l=>if l then Qq4 (M7 e.1 ([1])) (fun m=>if m then if(f.1.length:Int)=0 then AN ([(99:UInt8),(111:UInt8)]≠[]) (Qq4 (IS g.1 ([(99:UInt8),(111:UInt8)])) (fun n=>if n then Qq4 (LO (20:Int) (-1:Int)) (fun b=>if h.2.1=b.1/\h.2.2=b.2 then GF (decide (k.1=([33,97,38,98]:AaV))) else GF false) else GF false)) else GF false else GF false) else GF false) else GF false) else none else none else none else none else none else none else none else none else none)))))))))))))))
theorem Td(hU:Gq H){r:Bool}(h:MK=some r):
  Qqv 13 [] w (fun v w'=>v=.bool r):=by
 refine A1 162 [] func13 Z fun hL=>AI 1 Z<|Aj<|Aw h fun x1 h0 h=>Bf hL (XO _ _ (An hL) h0) ?_;rintro _ w2 ⟨iu,iv,iw,rfl,e8,e9,fa⟩ dv h1 ix;have fb:=e8.mono (Dt hL dv);have fc:=e9.Du hH hL dv;have fd:=fa.Du hH hL dv;refine B9 [x1] (r:=.Bu) (fun _=>N5 _ _ _ _ _ _ _ _) h1 (.c7 (Go.E.Rp.H8 ⟨_,_,Z,Z,⟨_,_,Z,⟨_,Z,fb⟩,⟨_,_,Z,Z,⟨_,_,Z,⟨_,Z,fc⟩,⟨_,_,Z,Z,⟨_,_,Z,Z,⟨_,Z,fd⟩⟩⟩⟩⟩⟩⟩) .nil) fun v3 w3 jn h2 iy aw=>Ai (AT (fun _=>OW _ _ aw.one _))<|A9 By.e Z h2 fun w4 b4 h3 fx _=>Af 0 Z h3 Z (a:=(Bk Z (Bk Z (Bk Z (Bk Z (Bk Z (Bk Z (Bk aw.one Kq)))))))) fun w5 dw fy=>Ad<|Aj<|Ai (Az 0 Z By.e dw Z)<|Aw h fun x6 h4 h=>?_;have aw:=aw.mono (Aa (fx.trans fy));refine AD dw (Lh _ _ (An dw) (hU.mono  Ah) ((Qv.mk (10:Int) ([]) ([]:AaV) ([]) (0:Int) (0:Int) ([x1]))) (AJ.nil _ _) (AJ.nil _ _) aw h4) fun w7 jo h5 fz=>Ar 3 Z<|A9 AE.e Z h5 fun w8 b8 h6 f1 _=>Ar 1 Z ?_
 refine Af 0 Z h6 Z fun w9 cy f2=>Ad<|Aj<|Aw h fun an f3 h=>Bf cy (Qd _ _ (An cy) (hU.mono  Ah) f3) ?_;rintro _ jp ⟨bq,br,bs,rfl,dx,dy,dz⟩ c0 f4 ff;have ad:=dx.mono (Dt cy c0);have ae:=dy.mono (Dt cy c0);have af:=dz.mono (Dt cy c0);refine Ar 3 Z<|A9 By.e Z f4 fun jq d0 f5 az _=>A9 AE.e Z f5 fun jr d1 f6 a2 _=>Af 1 Z f6 Z (a:=(Bk Z (Bk ad.one (Bk Z (Bk ae.one (Bk Z (Bk Z (Bk af.one Kq)))))))) fun js f7 a3=>Af 0 Z f7 Z fun jt d2 a4=>Ad ?_;have j:=d2.rG H;refine Aj<|O7 [(111:UInt8),(120:UInt8)] (r:=.byte) (fun _=>Abz _ _ _) (BI 2) hH d2 (.c1 Z (.c1 Z .nil)) fun ju jv iz f8 fg f9=>A2 h fun ga h=>Ady 0 Z Af7 AcY hH f8 Z f9 ga fun jw cb fh cq=>Aw h fun h7 gb h=>Bf cb (Q8 _ _ (An cb) gb) ?_;rintro _ jx ⟨ia,ib,ic,rfl,d3,d4,d5⟩ c2 gc de;have cc:=d3.Du hH cb c2;have cd:=d4.Du hH cb c2
 have ce:=d5.Du hH cb c2;refine Ai (AT (fun _=>WW _ cq.one _ _ _ _ _ _))<|O7 [(99:UInt8),(111:UInt8),(119:UInt8)] (r:=.byte) (fun _=>Ab0 _ _ _ _) (BI 3) hH gc (.c1 Z (.c1 Z (.c1 Z .nil))) fun jy jz i0 gd bf ge=>A2 h fun gf h=>Ady 0 Z Af7 AcY hH gd Z ge gf fun j0 cf bg cr=>Aw h fun h8 gg h=>Bf cf (Q8 _ _ (An cf) gg) ?_;rintro _ j1 ⟨ie,ig,ih,rfl,d6,d7,d8⟩ c3 gh a5;have d9:=d6.Du hH cf c3;have ea:=d7.Du hH cf c3;have eb:=d8.Du hH cf c3;refine Ai (AT (fun _=>WW _ cr.one _ _ _ _ _ _)) ?_;have cq:=cq.mono (Aa (de.trans (bf.trans (bg.trans a5))));have cc:=cc.mono (Aa (bf.trans (bg.trans a5)));have cd:=cd.mono (Aa (bf.trans (bg.trans a5)));have ce:=ce.mono (Aa (bf.trans (bg.trans a5)));have cr:=cr.mono (Aa a5)
 refine B9 ([([(111:UInt8),(120:UInt8)],h7),([(99:UInt8),(111:UInt8),(119:UInt8)],h8)]) (r:=(.pair (.vec .byte) .tree)) (fun _=>Agp _ _ _ _ _ _ _ _ _ _ _ _ _) (hlen:=(BI 2)) gh (.c6 ⟨_,_,Z,⟨_,Z,cq⟩,(Go.E.Rp.ET ⟨_,_,Z,Z,⟨_,_,Z,Z,⟨_,_,Z,⟨_,Z,cc⟩,⟨_,_,Z,⟨_,Z,cd⟩,⟨_,Z,ce⟩⟩⟩⟩⟩)⟩ (.c6 ⟨_,_,Z,⟨_,Z,cr⟩,(Go.E.Rp.ET ⟨_,_,Z,Z,⟨_,_,Z,Z,⟨_,_,Z,⟨_,Z,d9⟩,⟨_,_,Z,⟨_,Z,ea⟩,⟨_,Z,eb⟩⟩⟩⟩⟩)⟩ .nil)) fun j2 j3 i1 cg fi gi=>Aw h fun k gj h=>Bf cg (PY _ _ (An cg) (hU.mono  Ah) gi gj) ?_;rintro _ j4 ⟨bt,bu,bv,rfl,ec,ed,ee⟩ c4 gk fj;have y:=ec.mono (Dt cg c4);have aa:=ed.mono (Dt cg c4);have ab:=ee.Du hH cg c4;refine Ar 3 Z<|A9 Lp.e Z gk fun j5 ef gl bw _=>A9 AE.e Z gl fun j6 eg gm bx _=>Af 1 Z gm Z (a:=(Bk Z (Bk y.one (Bk Z (Bk aa.one (Bk ab.one Kq)))))) fun j7 gn bz=>Af 0 Z gn Z fun j8 cs b0=>Ad ?_;have e:=cs.rG H;refine Aj<|Ai (Az 1 Z Lp.e cs Z) ?_
 refine Ai (Az 5 Z By.e cs Z)<|B9 [true,true] (r:=.bool) (fun _=>U8 _ _ _) (hlen:=(BI 2)) cs (.c1 Z (.c1 Z .nil)) fun j9 ka i2 c5 fk go=>Aw h fun cm gp h=>?_;have aw:=aw.mono (Aa (fz.trans (f1.trans (f2.trans (ff.trans (az.trans (a2.trans (a3.trans a4))))))));have j:=j.trans (Aa (fg.trans (fh.trans (de.trans (bf.trans (bg.trans (a5.trans (fi.trans (fj.trans (bw.trans (bx.trans (bz.trans b0))))))))))));have y:=y.mono (Aa (bw.trans (bx.trans (bz.trans b0))));have aa:=aa.mono (Aa (bw.trans (bx.trans (bz.trans b0))));have ab:=ab.mono (Aa (bw.trans (bx.trans (bz.trans b0))));have e:=e.trans (Aa fk);refine Bf c5 (Il _ _ (An c5) (hU.mono  Ah) (((k.1.1.1,k.1.1.2),(k.1.2.1.1,k.1.2.1.2),k.1.2.2)) ((Qv.mk (10:Int) ([]) ([]:AaV) ([]) (0:Int) (0:Int) ([x1]))) (y.mono e) (aa.mono e) (ab.mono e) (AJ.nil _ _) (AJ.nil _ _) ((aw.mono j).mono e) go gp) ?_;rintro _ kb ⟨ii,rfl,eh⟩ gq gr fl;have ch:=eh.Du hH c5 gq;refine Ar 3 Z<|A9 AE.e Z gr fun kc ei gs df _=>Ar 1 Z ?_
 refine Af 0 Z gs Z fun kd c8 dg=>Ad<|Aj<|Ai (Az 2 Z Lp.e c8 Z)<|Ai (Az 6 Z By.e c8 Z)<|B9 [true,false] (r:=.bool) (fun _=>U8 _ _ _) (hlen:=(BI 2)) c8 (.c1 Z (.c1 Z .nil)) fun ke kf i3 c9 dh gt=>Aw h fun cn gu h=>?_;have e:=e.trans (Aa (fl.trans (df.trans (dg.trans dh))));refine Bf c9 (Il _ _ (An c9) (hU.mono  Ah) (((k.1.1.1,k.1.1.2),(k.1.2.1.1,k.1.2.1.2),k.1.2.2)) ((Qv.mk (10:Int) ([]) ([]:AaV) ([]) (0:Int) (0:Int) ([x1]))) (y.mono e) (aa.mono e) (ab.mono e) (AJ.nil _ _) (AJ.nil _ _) ((aw.mono j).mono e) gt gu) ?_;rintro _ kg ⟨ij,rfl,ej⟩ gv gw di;have ci:=ej.Du hH c9 gv;refine Ar 3 Z<|A9 AE.e Z gw fun kh ek gx ct _=>Ar 1 Z<|Af 0 Z gx Z fun ki el cu=>Ad<|Aj<|Ai (Az 3 Z Lp.e el Z)<|B9 [false,true] (r:=.bool) (fun _=>U8 _ _ _) (hlen:=(BI 2)) el (.c1 Z (.c1 Z .nil)) fun kj kk i4 da cv gy=>Aw h fun co g0 h=>?_
 have e:=e.trans (Aa (di.trans (ct.trans (cu.trans cv))));refine Bf da (Mc (a0:=((k.1.1.1,k.1.1.2),(k.1.2.1.1,k.1.2.1.2),k.1.2.2)) _ _ (An da) (y.mono e) (aa.mono e) (ab.mono e) gy g0) ?_;rintro _ kl ⟨ik,rfl,em⟩ g1 g2 cw;have cj:=em.mono (Dt da g1);refine Ar 3 Z<|A9 AE.e Z g2 fun km en g3 b1 _=>Ar 1 Z<|Af 0 Z g3 Z fun kn db b2=>Ad ?_;have g:=db.rG H;refine Aj<|Ai (Az 4 Z Lp.e db Z)<|B9 [true,false] (r:=.bool) (fun _=>U8 _ _ _) (hlen:=(BI 2)) db (.c1 Z (.c1 Z .nil)) fun ko kp i5 eo fm g4=>Aw h fun cp g5 h=>?_;have e:=e.trans (Aa (cw.trans (b1.trans b2)));have g:=g.trans (Aa fm);refine Bf eo (Mc (a0:=((k.1.1.1,k.1.1.2),(k.1.2.1.1,k.1.2.1.2),k.1.2.2)) _ _ (An eo) ((y.mono e).mono g) ((aa.mono e).mono g) ((ab.mono e).mono g) g4 g5) ?_;rintro _ kq ⟨il,rfl,h9⟩ i6 g6 dj;refine Ar 3 Z<|A9 AE.e Z g6 fun kr ep g7 dk _=>Ar 1 Z<|Af 0 Z g7 Z ?_
 intro ks ck dl;refine Ad<|Aj<|Aw h fun ao g8 h=>Bf ck (Qd _ _ (An ck) (hU.mono  Ah) g8) ?_;rintro _ kt ⟨b3,b5,b6,rfl,eq,er,es⟩ dc g9 dm;have ag:=eq.mono (Dt ck dc);have ah:=er.mono (Dt ck dc);have ai:=es.mono (Dt ck dc);refine Ar 3 Z<|A9 By.e Z g9 fun ku et ha bh _=>A9 AE.e Z ha fun kv eu hb bi _=>Af 1 Z hb Z (a:=(Bk Z (Bk ag.one (Bk Z (Bk ah.one (Bk Z (Bk Z (Bk ai.one Kq)))))))) fun kw hc bj=>Af 0 Z hc Z fun kx a6 bk=>Ad ?_;have d:=a6.rG H;refine Aj<|Ai (Az 1 Z By.e a6 Z)<|Aw h fun ap hd h=>?_;have ag:=ag.mono (Aa (bh.trans (bi.trans (bj.trans bk))));have ah:=ah.mono (Aa (bh.trans (bi.trans (bj.trans bk))));have ai:=ai.mono (Aa (bh.trans (bi.trans (bj.trans bk))));refine Bf a6 (MF (a0:=ao.1) _ _ (An a6) (hU.mono  Ah) (ag.mono d) (ah.mono d) (ai.mono d) hd) ?_;rintro _ ky ⟨b7,b9,ca,rfl,ev,ew,ex⟩ dd he dn
 have aj:=ev.mono (Dt a6 dd);have ak:=ew.mono (Dt a6 dd);have al:=ex.mono (Dt a6 dd);refine Ar 3 Z<|A9 By.e Z he fun kz ey hf bl _=>A9 AE.e Z hf fun k0 ez hg bm _=>Af 1 Z hg Z (a:=(Bk Z (Bk aj.one (Bk Z (Bk ak.one (Bk Z (Bk Z (Bk al.one Kq)))))))) fun k1 hh bn=>Af 0 Z hh Z fun k2 cx bo=>Ad ?_;have c:=cx.rG H;refine Aj<|Ai (Az 1 Z By.e cx Z)<|Aw h fun cl hi h=>?_;have aj:=aj.mono (Aa (bl.trans (bm.trans (bn.trans bo))));have ak:=ak.mono (Aa (bl.trans (bm.trans (bn.trans bo))));have al:=al.mono (Aa (bl.trans (bm.trans (bn.trans bo))));refine AD cx (Lh _ _ (An cx) (hU.mono  Ah) ap.1 (aj.mono c) (ak.mono c) (al.mono c) hi) fun k3 i7 hj dp=>Ar 3 Z<|A9 AE.e Z hj fun k4 e0 hk dq _=>Ar 1 Z<|Af 0 Z hk Z fun k5 ay dr=>Ad<|AB<|Aj<|Ai (Ae Z Ajx Z CR.e) ?_
 refine Ai (Ag 13 Z ay Z)<|Ar 2 Z<|IN 90 h ?_ ?_<;>intro a7 h
 ·iterate 3 refine Ao a7 ?_
  refine Ai (AK a7 Z)<|Ar 1 Z ?_
  iterate 3 refine Ao Z ?_
  refine Ai (AK Z Z)<|Ar 1 Z ?_
  iterate 3 refine Ao Z ?_
  refine Ai (AK Z Z)<|Ar 1 Z ?_
  iterate 3 refine Ao Z ?_
  refine Ai (AK Z Z)<|Ar 1 Z ?_
  iterate 3 refine Ao Z ?_
  refine Ai (AK Z Z)<|Ar 1 Z ?_
  iterate 3 refine Ao Z ?_
  refine Ai (AK Z Z)<|Ar 1 Z ?_
  iterate 3 refine Ao Z ?_
  refine Ai (AK Z Z)<|Ar 1 Z ?_
  iterate 3 refine Ao Z ?_
  refine Ai (AK Z Z)<|Ad<|Fq ?_
  cases h
 refine Ab a7<|Ai (Ae Z Ajx Z CR.e)<|Ab a7<|Ai (Ag 11 Z ay Z)<|Ab a7<|Ai (Am Z)<|Ai (AO a7 Z)<|Ar 1 Z<|IN 95 h ?_ ?_<;>intro a8 h
 ·iterate 3 refine Ao a8 ?_
  refine Ai (AK a8 Z)<|Ar 1 Z ?_
  iterate 3 refine Ao Z ?_
  refine Ai (AK Z Z)<|Ar 1 Z ?_
  iterate 3 refine Ao Z ?_
  refine Ai (AK Z Z)<|Ar 1 Z ?_
  iterate 3 refine Ao Z ?_
  refine Ai (AK Z Z)<|Ar 1 Z ?_
  iterate 3 refine Ao Z ?_
  refine Ai (AK Z Z)<|Ar 1 Z ?_
  iterate 3 refine Ao Z ?_
  refine Ai (AK Z Z)<|Ar 1 Z ?_
  iterate 3 refine Ao Z ?_
  refine Ai (AK Z Z)<|Ad<|Fq ?_
  cases h
 refine Ab a8<|Ai (Ae Z Ajx Z CR.e)<|Ab a8<|Ai (Ag 9 Z ay Z)<|Ab a8<|Ai (Am Z)<|Ai (AO a8 Z)<|Ar 1 Z<|IN 100 h ?_ ?_<;>intro a9 h
 ·iterate 3 refine Ao a9 ?_
  refine Ai (AK a9 Z)<|Ar 1 Z ?_
  iterate 3 refine Ao Z ?_
  refine Ai (AK Z Z)<|Ar 1 Z ?_
  iterate 3 refine Ao Z ?_
  refine Ai (AK Z Z)<|Ar 1 Z ?_
  iterate 3 refine Ao Z ?_
  refine Ai (AK Z Z)<|Ar 1 Z ?_
  iterate 3 refine Ao Z ?_
  refine Ai (AK Z Z)<|Ar 1 Z ?_
  iterate 3 refine Ao Z ?_
  refine Ai (AK Z Z)<|Ad<|Fq ?_
  cases h
 refine Ab a9<|Ai (Ae Z Ajx Z CR.e)<|Ab a9<|Ai (Ag 8 Z ay Z)<|Ab a9<|Ai (Am Z)<|Ai (AO a9 Z)<|Ar 1 Z<|IN 105 h ?_ ?_<;>intro ba h
 ·iterate 3 refine Ao ba ?_
  refine Ai (AK ba Z)<|Ar 1 Z ?_
  iterate 3 refine Ao Z ?_
  refine Ai (AK Z Z)<|Ar 1 Z ?_
  iterate 3 refine Ao Z ?_
  refine Ai (AK Z Z)<|Ar 1 Z ?_
  iterate 3 refine Ao Z ?_
  refine Ai (AK Z Z)<|Ar 1 Z ?_
  iterate 3 refine Ao Z ?_
  refine Ai (AK Z Z)<|Ad<|Fq ?_
  cases h
 refine Ab ba<|Ai (Ae Z Ajx Z CR.e)<|Ab ba<|Ai (Ag 7 Z ay Z)<|Ab ba<|Ai (Am Z)<|Ai (AO ba Z)<|Ar 1 Z<|IN 110 h ?_ ?_<;>intro bb h
 ·iterate 3 refine Ao bb ?_
  refine Ai (AK bb Z)<|Ar 1 Z ?_
  iterate 3 refine Ao Z ?_
  refine Ai (AK Z Z)<|Ar 1 Z ?_
  iterate 3 refine Ao Z ?_
  refine Ai (AK Z Z)<|Ar 1 Z ?_
  iterate 3 refine Ao Z ?_
  refine Ai (AK Z Z)<|Ad<|Fq ?_
  cases h
 refine Ab bb<|Ai (Ae Z Ajx Z CR.e)<|Ab bb<|Ai (Ag 6 Z ay Z)<|Ab bb<|Ai (Am Z)<|Ai (AO bb Z)<|Ar 1 Z<|IN 115 h ?_ ?_<;>intro bc h
 ·iterate 3 refine Ao bc ?_
  refine Ai (AK bc Z)<|Ar 1 Z ?_
  iterate 3 refine Ao Z ?_
  refine Ai (AK Z Z)<|Ar 1 Z ?_
  iterate 3 refine Ao Z ?_
  refine Ai (AK Z Z)<|Ad<|Fq ?_
  cases h
 refine Ab bc<|Ai (Ae Z Ajx Z CR.e)<|Ab bc<|Ai (Ag 3 Z ay Z)<|Ab bc<|Ai (Am Z)<|Ai (AO bc Z)<|Ar 1 Z<|IN 120 h ?_ ?_<;>intro bd h
 ·iterate 3 refine Ao bd ?_
  refine Ai (AK bd Z)<|Ar 1 Z ?_
  iterate 3 refine Ao Z ?_
  refine Ai (AK Z Z)<|Ad<|Fq ?_
  cases h
 refine Ab bd<|Ai (Ae Z Ajx Z CR.e)<|Ab bd<|Ai (Ag 1 Z ay Z)<|Ab bd<|Ai (Am Z)<|Ai (AO bd Z)<|Ar 1 Z<|IN 125 h ?_ ?_<;>intro be h
 ·iterate 3 refine Ao be ?_
  refine Ai (AK be Z)<|Ad<|Fq ?_
  cases h
 refine Ab be<|Ai (Ae Z Ajx Z CR.e)<|Ab be<|Ai (Ag 0 Z ay Z)<|Ab be<|Ai (Am Z)<|Ai (AO be Z)<|Ad<|CX h ?_ ?_<;>intro hl h
 ·cases h
 refine Ax<|As ?_
 refine B2 Bool (fun bp=>[(0,.bool bp)]) (fun bp wr=>FX w [.box e0 [No cl.2.1,No cl.2.2] 28,.box ez [No ap.2.1,No ap.2.2] 28,.box ey [No ap.1.f.1,b7,AaM ap.1.f.2.2.1,b9,No ap.1.f.2.2.2.2.1,No ap.1.f.2.2.2.2.2.1,ca] 26,.box eu [No ao.2.1,No ao.2.2] 28,.box et [No ao.1.f.1,b3,AaM ao.1.f.2.2.1,b5,No ao.1.f.2.2.2.2.1,No ao.1.f.2.2.2.2.2.1,b6] 26,.box ep [No cp.2.1,No cp.2.2] 28,.box en [No co.2.1,No co.2.2] 28,.box ek [No cn.2.1,No cn.2.2] 28,.box ei [No cm.2.1,No cm.2.2] 28,.box eg [No k.2.1,No k.2.2] 28,.box ef [No k.1.1.1,bt,No k.1.2.1.1,bu,bv] 52,.box d1 [No an.2.1,No an.2.2] 28,.box d0 [No an.1.f.1,bq,AaM an.1.f.2.2.1,br,No an.1.f.2.2.2.2.1,No an.1.f.2.2.2.2.2.1,bs] 26,.box b8 [No x6.2.1,No x6.2.2] 28,.box b4 [No 10,Aac,(AaM []),Aac,No 0,No 0,v3] 26] wr fun Oz=>AJ .st (gz H w wr Oz) b7 (ap.1.f.2.1)/\AJ .byte (gz H w wr Oz) b9 (ap.1.f.2.2.2.1)/\AJ .Bu (gz H w wr Oz) ca (ap.1.f.2.2.2.2.2.2)/\AJ .st (gz H w wr Oz) b3 (ao.1.f.2.1)/\AJ .byte (gz H w wr Oz) b5 (ao.1.f.2.2.2.1)/\AJ .Bu (gz H w wr Oz) b6 (ao.1.f.2.2.2.2.2.2)/\AJ (.pair .st (.vec Akp)) (gz H w wr Oz) bt (k.1.1.2)/\AJ Akn (gz H w wr Oz) bu (k.1.2.1.2)/\AJ Ako (gz H w wr Oz) bv (k.1.2.2)/\AJ .st (gz H w wr Oz) bq (an.1.f.2.1)/\AJ .byte (gz H w wr Oz) br (an.1.f.2.2.2.1)/\AJ .Bu (gz H w wr Oz) bs (an.1.f.2.2.2.2.2.2)/\AJ .Bu (gz H w wr Oz) v3 ([x1])/\GF bp=some r) ?_ ?_
 ·refine J7 (NP MP) (fun z0 z=>Le (gz H w z0 [.box e0 [No cl.2.1,No cl.2.2] 28,.box ez [No ap.2.1,No ap.2.2] 28,.box ey [No ap.1.f.1,b7,AaM ap.1.f.2.2.1,b9,No ap.1.f.2.2.2.2.1,No ap.1.f.2.2.2.2.2.1,ca] 26,.box eu [No ao.2.1,No ao.2.2] 28,.box et [No ao.1.f.1,b3,AaM ao.1.f.2.2.1,b5,No ao.1.f.2.2.2.2.1,No ao.1.f.2.2.2.2.2.1,b6] 26,.box ep [No cp.2.1,No cp.2.2] 28,.box en [No co.2.1,No co.2.2] 28,.box ek [No cn.2.1,No cn.2.2] 28,.box ei [No cm.2.1,No cm.2.2] 28,.box eg [No k.2.1,No k.2.2] 28,.box ef [No k.1.1.1,bt,No k.1.2.1.1,bu,bv] 52,.box d1 [No an.2.1,No an.2.2] 28,.box d0 [No an.1.f.1,bq,AaM an.1.f.2.2.1,br,No an.1.f.2.2.2.2.1,No an.1.f.2.2.2.2.2.1,bs] 26,.box b8 [No x6.2.1,No x6.2.2] 28,.box b4 [No 10,Aac,(AaM []),Aac,No 0,No 0,v3] 26]) (hp z)/\z.heap[e0]? = some (.cells [No cl.2.1,No cl.2.2].toArray 28 (0,0))/\z.heap[ez]? = some (.cells [No ap.2.1,No ap.2.2].toArray 28 (0,0))/\z.heap[ey]? = some (.cells [No ap.1.f.1,b7,AaM ap.1.f.2.2.1,b9,No ap.1.f.2.2.2.2.1,No ap.1.f.2.2.2.2.2.1,ca].toArray 26 (0,0))/\z.heap[eu]? = some (.cells [No ao.2.1,No ao.2.2].toArray 28 (0,0))/\z.heap[et]? = some (.cells [No ao.1.f.1,b3,AaM ao.1.f.2.2.1,b5,No ao.1.f.2.2.2.2.1,No ao.1.f.2.2.2.2.2.1,b6].toArray 26 (0,0))/\z.heap[ep]? = some (.cells [No cp.2.1,No cp.2.2].toArray 28 (0,0))/\z.heap[en]? = some (.cells [No co.2.1,No co.2.2].toArray 28 (0,0))/\z.heap[ek]? = some (.cells [No cn.2.1,No cn.2.2].toArray 28 (0,0))/\z.heap[ei]? = some (.cells [No cm.2.1,No cm.2.2].toArray 28 (0,0))/\z.heap[eg]? = some (.cells [No k.2.1,No k.2.2].toArray 28 (0,0))/\z.heap[ef]? = some (.cells [No k.1.1.1,bt,No k.1.2.1.1,bu,bv].toArray 52 (0,0))/\z.heap[d1]? = some (.cells [No an.2.1,No an.2.2].toArray 28 (0,0))/\z.heap[d0]? = some (.cells [No an.1.f.1,bq,AaM an.1.f.2.2.1,br,No an.1.f.2.2.2.2.1,No an.1.f.2.2.2.2.2.1,bs].toArray 26 (0,0))/\z.heap[b8]? = some (.cells [No x6.2.1,No x6.2.2].toArray 28 (0,0))/\z.heap[b4]? = some (.cells [No 10,Aac,(AaM []),Aac,No 0,No 0,v3].toArray 26 (0,0))) mixed Z (fun a i9 ds=>?_)
  have m:=ay.call ds;have cz:=AR ay ds;have b:=m.rG H;refine MQ ⟨b.trans (An m),m.at (i:=0) Z,m.at (i:=1) Z,m.at (i:=2) Z,m.at (i:=3) Z,m.at (i:=4) Z,m.at (i:=5) Z,m.at (i:=6) Z,m.at (i:=7) Z,m.at (i:=8) Z,m.at (i:=9) Z,m.at (i:=10) Z,m.at (i:=11) Z,m.at (i:=12) Z,m.at (i:=13) Z,m.at (i:=14) Z⟩ fun kI149=>A6 0 a kI149 Z (fun _ _=>Am Z) Z<|A6 1 a kI149 Z (fun _ _=>Nx Z Z) Z<|A6 2 a kI149 Z (fun _ _=>Am Z) Z<|OR 132 Z (fun aq=>?_) (fun aq=>?_)
  ·have h:=ON (of_decide_eq_true aq) h;refine IQ 3 a kI149 Z Z Z Z aq (fun _ hI=>LM hI.2.2.2.2.2.2.2.2.2.2.2.2.2.1) Z<|IQ 4 a kI149 Z Z Z Z aq (fun _ hI=>LM hI.2.2.2.2.2.2.2.2.2.2.2.2.2.2.2) Z<|FY 5 Z<|Ab aq<|Aw h fun ja fn h=>?_;have ad:=ad.mono (Aa (az.trans (a2.trans (a3.trans a4))));have ae:=ae.mono (Aa (az.trans (a2.trans (a3.trans a4))));have af:=af.mono (Aa (az.trans (a2.trans (a3.trans a4))));have g:=g.trans (Aa (dj.trans (dk.trans (dl.trans (dm.trans (bh.trans (bi.trans (bj.trans bk))))))));have d:=d.trans (Aa (dn.trans (bl.trans (bm.trans (bn.trans bo)))));have c:=c.trans (Aa (dp.trans (dq.trans (dr.trans cz))))
   refine AD m (JH _ _ (An m) an.1 ((Qv.mk (10:Int) ([]) ([]:AaV) ([]) (0:Int) (0:Int) ([x1]))) ((((((ad.mono j).mono e).mono g).mono d).mono c).mono b) ((((((ae.mono j).mono e).mono g).mono d).mono c).mono b) ((((((af.mono j).mono e).mono g).mono d).mono c).mono b) (AJ.nil _ _) (AJ.nil _ _) ((((((aw.mono j).mono e).mono g).mono d).mono c).mono b) fn) ?_;intro jb im q e1;have b:=b.trans (Aa e1);refine AV ⟨b.trans (An q),q.at (i:=0) Z,q.at (i:=1) Z,q.at (i:=2) Z,q.at (i:=3) Z,q.at (i:=4) Z,q.at (i:=5) Z,q.at (i:=6) Z,q.at (i:=7) Z,q.at (i:=8) Z,q.at (i:=9) Z,q.at (i:=10) Z,q.at (i:=11) Z,q.at (i:=12) Z,q.at (i:=13) Z,q.at (i:=14) Z⟩ fun kI154=>A6 6 a kI154 Z (fun _ _=>AK aq Z) Z<|A6 7 a kI154 Z (fun _ _=>Am Z) Z<|OR 137 Z (fun ar=>?_) (fun ar=>?_)
   ·have h:=YF ar h;refine IQ 8 a kI154 Z Z Z Z ar (fun _ _=>Am Z) Z<|FY 9 Z<|Ab ar<|B9 [1] (r:=(.int .i64)) (fun _=>Jn _ _) q (.c1 Z .nil) ?_;intro jc jd io t e2 fo;have b:=b.trans (Aa e2);refine AV ⟨b.trans (An t),t.at (i:=0) Z,t.at (i:=1) Z,t.at (i:=2) Z,t.at (i:=3) Z,t.at (i:=4) Z,t.at (i:=5) Z,t.at (i:=6) Z,t.at (i:=7) Z,t.at (i:=8) Z,t.at (i:=9) Z,t.at (i:=10) Z,t.at (i:=11) Z,t.at (i:=12) Z,t.at (i:=13) Z,t.at (i:=14) Z⟩ fun kI158=>FY 10 Z<|Ab ar<|Aw h fun je fp h=>?_;have ch:=ch.mono (Aa (df.trans (dg.trans (dh.trans (di.trans (ct.trans (cu.trans (cv.trans (cw.trans (b1.trans b2))))))))));refine AD t (S8 _ _ (An t) ((((ch.mono g).mono d).mono c).mono b) fo fp) ?_;intro jf ip o e3;have b:=b.trans (Aa e3)
    refine AV ⟨b.trans (An o),o.at (i:=0) Z,o.at (i:=1) Z,o.at (i:=2) Z,o.at (i:=3) Z,o.at (i:=4) Z,o.at (i:=5) Z,o.at (i:=6) Z,o.at (i:=7) Z,o.at (i:=8) Z,o.at (i:=9) Z,o.at (i:=10) Z,o.at (i:=11) Z,o.at (i:=12) Z,o.at (i:=13) Z,o.at (i:=14) Z⟩ fun kI161=>A6 11 a kI161 Z (fun _ _=>AK ar Z) Z<|A6 12 a kI161 Z (fun _ _=>Am Z) Z<|OR 142 Z (fun au=>?_) (fun au=>?_)
    ·have h:=YF au h;refine IQ 13 a kI161 Z Z Z Z au (fun _ _=>Am Z) Z ?_;have ci:=ci.mono (Aa (ct.trans (cu.trans (cv.trans (cw.trans (b1.trans b2))))));refine IQ 14 a kI161 Z Z Z Z au (fun _ _=>Bm ((((ci.mono g).mono d).mono c).mono b)) Z<|IQ 15 a kI161 Z Z Z Z au (fun _ _=>Am Z) Z<|A6 16 a kI161 Z (fun _ _=>AK au Z) Z<|A6 17 a kI161 Z (fun _ _=>Am Z) Z<|OR 147 Z (fun am=>?_) (fun am=>?_)
     ·have h:=ON (of_decide_eq_true am) h;refine IQ 18 a kI161 Z Z Z Z am (fun _ _=>Am Z) Z<|FY 19 Z<|Ab am<|O7 [(99:UInt8),(111:UInt8)] (r:=.byte) (fun _=>Abz _ _ _) (BI 2) hH o (.c1 Z (.c1 Z .nil)) ?_;intro jg jh iq ac e4 fq;have b:=b.trans (Aa e4);refine AV ⟨b.trans (An ac),ac.at (i:=1) Z,ac.at (i:=2) Z,ac.at (i:=3) Z,ac.at (i:=4) Z,ac.at (i:=5) Z,ac.at (i:=6) Z,ac.at (i:=7) Z,ac.at (i:=8) Z,ac.at (i:=9) Z,ac.at (i:=10) Z,ac.at (i:=11) Z,ac.at (i:=12) Z,ac.at (i:=13) Z,ac.at (i:=14) Z,ac.at (i:=15) Z⟩ fun kI167=>FY 20 Z<|Ab am<|A2 h fun fr h=>Ady 0 Z Af7 AcY hH ac Z fq fr ?_;intro ji u e5 fs;have b:=b.trans (Aa e5)
      refine AV ⟨b.trans (An u),u.at (i:=0) Z,u.at (i:=1) Z,u.at (i:=2) Z,u.at (i:=3) Z,u.at (i:=4) Z,u.at (i:=5) Z,u.at (i:=6) Z,u.at (i:=7) Z,u.at (i:=8) Z,u.at (i:=9) Z,u.at (i:=10) Z,u.at (i:=11) Z,u.at (i:=12) Z,u.at (i:=13) Z,u.at (i:=14) Z⟩ fun kI170=>FY 21 Z<|Ab am<|Aw h fun jj ft h=>?_;have cj:=cj.mono (Aa (b1.trans b2));refine AD u (Oq _ _ (An u) ((((cj.mono g).mono d).mono c).mono b) fs ft) ?_;intro jk ir p e6;have b:=b.trans (Aa e6);refine AV ⟨b.trans (An p),p.at (i:=0) Z,p.at (i:=1) Z,p.at (i:=2) Z,p.at (i:=3) Z,p.at (i:=4) Z,p.at (i:=5) Z,p.at (i:=6) Z,p.at (i:=7) Z,p.at (i:=8) Z,p.at (i:=9) Z,p.at (i:=10) Z,p.at (i:=11) Z,p.at (i:=12) Z,p.at (i:=13) Z,p.at (i:=14) Z⟩ fun kI173=>A6 22 a kI173 Z (fun _ _=>AK am Z) Z<|A6 23 a kI173 Z (fun _ _=>Am Z) Z<|OR 153 Z (fun av=>?_) (fun av=>?_)
      ·have h:=YF av h;refine IQ 24 a kI173 Z Z Z Z av (fun _ hI=>LM hI.2.2.2.2.2.2.1) Z<|FY 25 Z<|Ab av<|Aw h fun jl fu h=>AD p (Aao _ _ (An p) fu) ?_;intro jm is x e7;have b:=b.trans (Aa e7);refine AV ⟨b.trans (An x),x.at (i:=0) Z,x.at (i:=1) Z,x.at (i:=2) Z,x.at (i:=3) Z,x.at (i:=4) Z,x.at (i:=5) Z,x.at (i:=6) Z,x.at (i:=7) Z,x.at (i:=8) Z,x.at (i:=9) Z,x.at (i:=10) Z,x.at (i:=11) Z,x.at (i:=12) Z,x.at (i:=13) Z,x.at (i:=14) Z⟩ fun kI178=>IQ 26 a kI178 Z Z Z Z av (fun _ _=>Abe Jh (Nc _ _ _ _)) Z<|A6 27 a kI178 Z (fun _ _=>AK av Z) Z<|A6 28 a kI178 Z (fun _ _=>Am Z) Z<|OR 158 Z (fun ax=>?_) (fun ax=>?_)
       ·have h:=ON (of_decide_eq_true ax) h;refine IQ 29 a kI178 Z Z Z Z ax (fun _ _=>Am Z) Z<|IQ 30 a kI178 Z Z Z Z ax (fun _ _=>Nx Z Z) Z<|A6 31 a kI178 Z (fun _ _=>AK ax Z) Z<|A6 32 a kI178 Z (fun _ _=>Am Z) Z<|EF<|AA _ ⟨x,((aj.mono c).mono b),((ak.mono c).mono b),((al.mono c).mono b),(((ag.mono d).mono c).mono b),(((ah.mono d).mono c).mono b),(((ai.mono d).mono c).mono b),(((((y.mono e).mono g).mono d).mono c).mono b),(((((aa.mono e).mono g).mono d).mono c).mono b),(((((ab.mono e).mono g).mono d).mono c).mono b),((((((ad.mono j).mono e).mono g).mono d).mono c).mono b),((((((ae.mono j).mono e).mono g).mono d).mono c).mono b),((((((af.mono j).mono e).mono g).mono d).mono c).mono b),((((((aw.mono j).mono e).mono g).mono d).mono c).mono b),h⟩
       have h:=OO (of_decide_eq_false ax) h;refine C8 29 a kI178 Z Z Z Z ax Z<|C8 30 a kI178 Z Z Z Z ax Z<|A6 31 a kI178 Z (fun _ _=>AO ax Z) Z<|A6 32 a kI178 Z (fun _ _=>Am Z) Z<|EF<|AA _ ⟨x,((aj.mono c).mono b),((ak.mono c).mono b),((al.mono c).mono b),(((ag.mono d).mono c).mono b),(((ah.mono d).mono c).mono b),(((ai.mono d).mono c).mono b),(((((y.mono e).mono g).mono d).mono c).mono b),(((((aa.mono e).mono g).mono d).mono c).mono b),(((((ab.mono e).mono g).mono d).mono c).mono b),((((((ad.mono j).mono e).mono g).mono d).mono c).mono b),((((((ae.mono j).mono e).mono g).mono d).mono c).mono b),((((((af.mono j).mono e).mono g).mono d).mono c).mono b),((((((aw.mono j).mono e).mono g).mono d).mono c).mono b),h⟩
      have h:=YG av h;refine C8 24 a kI173 Z Z Z Z av Z<|C8 25 a kI173 Z Z Z Z av Z<|C8 26 a kI173 Z Z Z Z av Z<|A6 27 a kI173 Z (fun _ _=>AO av Z) Z<|A6 28 a kI173 Z (fun _ _=>Am Z) Z<|C8 29 a kI173 Z Z Z Z Z Z<|C8 30 a kI173 Z Z Z Z Z Z<|A6 31 a kI173 Z (fun _ _=>AO Z Z) Z<|A6 32 a kI173 Z (fun _ _=>Am Z) Z<|EF ?_
      refine AA _ ⟨p,((aj.mono c).mono b),((ak.mono c).mono b),((al.mono c).mono b),(((ag.mono d).mono c).mono b),(((ah.mono d).mono c).mono b),(((ai.mono d).mono c).mono b),(((((y.mono e).mono g).mono d).mono c).mono b),(((((aa.mono e).mono g).mono d).mono c).mono b),(((((ab.mono e).mono g).mono d).mono c).mono b),((((((ad.mono j).mono e).mono g).mono d).mono c).mono b),((((((ae.mono j).mono e).mono g).mono d).mono c).mono b),((((((af.mono j).mono e).mono g).mono d).mono c).mono b),((((((aw.mono j).mono e).mono g).mono d).mono c).mono b),h⟩
     have h:=OO (of_decide_eq_false am) h;refine C8 18 a kI161 Z Z Z Z am Z<|C8 19 a kI161 Z Z Z Z am Z<|C8 20 a kI161 Z Z Z Z am Z<|C8 21 a kI161 Z Z Z Z am Z<|A6 22 a kI161 Z (fun _ _=>AO am Z) Z<|A6 23 a kI161 Z (fun _ _=>Am Z) Z<|C8 24 a kI161 Z Z Z Z Z Z<|C8 25 a kI161 Z Z Z Z Z Z<|C8 26 a kI161 Z Z Z Z Z Z<|A6 27 a kI161 Z (fun _ _=>AO Z Z) Z<|A6 28 a kI161 Z (fun _ _=>Am Z) Z<|C8 29 a kI161 Z Z Z Z Z Z<|C8 30 a kI161 Z Z Z Z Z Z<|A6 31 a kI161 Z (fun _ _=>AO Z Z) Z<|A6 32 a kI161 Z (fun _ _=>Am Z) Z<|EF ?_
     refine AA _ ⟨o,((aj.mono c).mono b),((ak.mono c).mono b),((al.mono c).mono b),(((ag.mono d).mono c).mono b),(((ah.mono d).mono c).mono b),(((ai.mono d).mono c).mono b),(((((y.mono e).mono g).mono d).mono c).mono b),(((((aa.mono e).mono g).mono d).mono c).mono b),(((((ab.mono e).mono g).mono d).mono c).mono b),((((((ad.mono j).mono e).mono g).mono d).mono c).mono b),((((((ae.mono j).mono e).mono g).mono d).mono c).mono b),((((((af.mono j).mono e).mono g).mono d).mono c).mono b),((((((aw.mono j).mono e).mono g).mono d).mono c).mono b),h⟩
    have h:=YG au h;refine C8 13 a kI161 Z Z Z Z au Z<|C8 14 a kI161 Z Z Z Z au Z<|C8 15 a kI161 Z Z Z Z au Z<|A6 16 a kI161 Z (fun _ _=>AO au Z) Z<|A6 17 a kI161 Z (fun _ _=>Am Z) Z<|C8 18 a kI161 Z Z Z Z Z Z<|C8 19 a kI161 Z Z Z Z Z Z<|C8 20 a kI161 Z Z Z Z Z Z<|C8 21 a kI161 Z Z Z Z Z Z<|A6 22 a kI161 Z (fun _ _=>AO Z Z) Z<|A6 23 a kI161 Z (fun _ _=>Am Z) Z<|C8 24 a kI161 Z Z Z Z Z Z<|C8 25 a kI161 Z Z Z Z Z Z<|C8 26 a kI161 Z Z Z Z Z Z<|A6 27 a kI161 Z (fun _ _=>AO Z Z) Z<|A6 28 a kI161 Z (fun _ _=>Am Z) Z<|C8 29 a kI161 Z Z Z Z Z Z<|C8 30 a kI161 Z Z Z Z Z Z ?_
    refine A6 31 a kI161 Z (fun _ _=>AO Z Z) Z<|A6 32 a kI161 Z (fun _ _=>Am Z) Z<|EF<|AA _ ⟨o,((aj.mono c).mono b),((ak.mono c).mono b),((al.mono c).mono b),(((ag.mono d).mono c).mono b),(((ah.mono d).mono c).mono b),(((ai.mono d).mono c).mono b),(((((y.mono e).mono g).mono d).mono c).mono b),(((((aa.mono e).mono g).mono d).mono c).mono b),(((((ab.mono e).mono g).mono d).mono c).mono b),((((((ad.mono j).mono e).mono g).mono d).mono c).mono b),((((((ae.mono j).mono e).mono g).mono d).mono c).mono b),((((((af.mono j).mono e).mono g).mono d).mono c).mono b),((((((aw.mono j).mono e).mono g).mono d).mono c).mono b),h⟩
   have h:=YG ar h;refine C8 8 a kI154 Z Z Z Z ar Z<|C8 9 a kI154 Z Z Z Z ar Z<|C8 10 a kI154 Z Z Z Z ar Z<|A6 11 a kI154 Z (fun _ _=>AO ar Z) Z<|A6 12 a kI154 Z (fun _ _=>Am Z) Z<|C8 13 a kI154 Z Z Z Z Z Z<|C8 14 a kI154 Z Z Z Z Z Z<|C8 15 a kI154 Z Z Z Z Z Z<|A6 16 a kI154 Z (fun _ _=>AO Z Z) Z<|A6 17 a kI154 Z (fun _ _=>Am Z) Z<|C8 18 a kI154 Z Z Z Z Z Z<|C8 19 a kI154 Z Z Z Z Z Z<|C8 20 a kI154 Z Z Z Z Z Z<|C8 21 a kI154 Z Z Z Z Z Z<|A6 22 a kI154 Z (fun _ _=>AO Z Z) Z<|A6 23 a kI154 Z (fun _ _=>Am Z) Z<|C8 24 a kI154 Z Z Z Z Z Z<|C8 25 a kI154 Z Z Z Z Z Z<|C8 26 a kI154 Z Z Z Z Z Z ?_
   refine A6 27 a kI154 Z (fun _ _=>AO Z Z) Z<|A6 28 a kI154 Z (fun _ _=>Am Z) Z<|C8 29 a kI154 Z Z Z Z Z Z<|C8 30 a kI154 Z Z Z Z Z Z<|A6 31 a kI154 Z (fun _ _=>AO Z Z) Z<|A6 32 a kI154 Z (fun _ _=>Am Z) Z<|EF<|AA _ ⟨q,((aj.mono c).mono b),((ak.mono c).mono b),((al.mono c).mono b),(((ag.mono d).mono c).mono b),(((ah.mono d).mono c).mono b),(((ai.mono d).mono c).mono b),(((((y.mono e).mono g).mono d).mono c).mono b),(((((aa.mono e).mono g).mono d).mono c).mono b),(((((ab.mono e).mono g).mono d).mono c).mono b),((((((ad.mono j).mono e).mono g).mono d).mono c).mono b),((((((ae.mono j).mono e).mono g).mono d).mono c).mono b),((((((af.mono j).mono e).mono g).mono d).mono c).mono b),((((((aw.mono j).mono e).mono g).mono d).mono c).mono b),h⟩
  have h:=OO (of_decide_eq_false aq) h;refine C8 3 a kI149 Z Z Z Z aq Z<|C8 4 a kI149 Z Z Z Z aq Z<|C8 5 a kI149 Z Z Z Z aq Z<|A6 6 a kI149 Z (fun _ _=>AO aq Z) Z<|A6 7 a kI149 Z (fun _ _=>Am Z) Z<|C8 8 a kI149 Z Z Z Z Z Z<|C8 9 a kI149 Z Z Z Z Z Z<|C8 10 a kI149 Z Z Z Z Z Z<|A6 11 a kI149 Z (fun _ _=>AO Z Z) Z<|A6 12 a kI149 Z (fun _ _=>Am Z) Z<|C8 13 a kI149 Z Z Z Z Z Z<|C8 14 a kI149 Z Z Z Z Z Z<|C8 15 a kI149 Z Z Z Z Z Z<|A6 16 a kI149 Z (fun _ _=>AO Z Z) Z<|A6 17 a kI149 Z (fun _ _=>Am Z) Z<|C8 18 a kI149 Z Z Z Z Z Z<|C8 19 a kI149 Z Z Z Z Z Z<|C8 20 a kI149 Z Z Z Z Z Z ?_
  refine C8 21 a kI149 Z Z Z Z Z Z<|A6 22 a kI149 Z (fun _ _=>AO Z Z) Z<|A6 23 a kI149 Z (fun _ _=>Am Z) Z<|C8 24 a kI149 Z Z Z Z Z Z<|C8 25 a kI149 Z Z Z Z Z Z<|C8 26 a kI149 Z Z Z Z Z Z<|A6 27 a kI149 Z (fun _ _=>AO Z Z) Z<|A6 28 a kI149 Z (fun _ _=>Am Z) Z<|C8 29 a kI149 Z Z Z Z Z Z<|C8 30 a kI149 Z Z Z Z Z Z<|A6 31 a kI149 Z (fun _ _=>AO Z Z) Z<|A6 32 a kI149 Z (fun _ _=>Am Z) Z<|EF ?_;have ad:=ad.mono (Aa (az.trans (a2.trans (a3.trans a4))));have ae:=ae.mono (Aa (az.trans (a2.trans (a3.trans a4))));have af:=af.mono (Aa (az.trans (a2.trans (a3.trans a4))));have g:=g.trans (Aa (dj.trans (dk.trans (dl.trans (dm.trans (bh.trans (bi.trans (bj.trans bk))))))))
  have d:=d.trans (Aa (dn.trans (bl.trans (bm.trans (bn.trans bo)))));have c:=c.trans (Aa (dp.trans (dq.trans (dr.trans cz))));refine AA _ ⟨m,((aj.mono c).mono b),((ak.mono c).mono b),((al.mono c).mono b),(((ag.mono d).mono c).mono b),(((ah.mono d).mono c).mono b),(((ai.mono d).mono c).mono b),(((((y.mono e).mono g).mono d).mono c).mono b),(((((aa.mono e).mono g).mono d).mono c).mono b),(((((ab.mono e).mono g).mono d).mono c).mono b),((((((ad.mono j).mono e).mono g).mono d).mono c).mono b),((((((ae.mono j).mono e).mono g).mono d).mono c).mono b),((((((af.mono j).mono e).mono g).mono d).mono c).mono b),((((((aw.mono j).mono e).mono g).mono d).mono c).mono b),h⟩
 rintro bp it ⟨fv,hq,hr,hs,ht,hu,hv,hw,hx,hy,hz,hm,hn,ho,h⟩;refine Ay ?_
 cases h
 refine Al Z ⟨fv.ext,Z⟩
end
end Go.Proofs.YtekmbcbgknmhiaaGreatDoor
end
noncomputable section
namespace Go.L
def Afz(a:List UInt8):List (Fin (a.length+1)):=isB (fun x y=>!(Go.Proofs.ltOf (K9 a)) y x) (PX a.length)
def Af0(a:List UInt8):List Int:=(Afz a).map fun x=>(x.val:Int)
theorem QY(a:List UInt8):Af0 a=DH a:=by
 have h:Afz a=Aau a:=by
  have hlt:∀ x y,(!(Go.Proofs.ltOf (K9 a)) y x)=true↔¬ K9 a y x<0:=fun x y=>by simp [Go.Proofs.ltOf]
  refine Yt (fun x y z c h2=>?_) (fun x y=>?_) (fun x y c h2=>?_) _
  ·rw [hlt] at *;intro h3;unfold K9 at *;have s1:=KR (a.drop x.val) (a.drop y.val)
   rcases Qke (Lib.compareBytes (a.drop x.val) (a.drop y.val)) 0 with b | b | b
   ·exact h2 (NI _ _ _ h3 b)
   ·rw [QD _ _ b] at h3;exact h2 h3
   ·omega
  ·rw [hlt,hlt];unfold K9;have s1:=KR (a.drop x.val) (a.drop y.val);omega
  ·exact PD a x y (by simpa using h2) (by simpa using c)
 unfold Af0 DH;rw [h]
end Go.L
namespace Go.Proofs.YtekmbcbgknmhiaaGreatDoor
open Go Go.E Go.RowKit
def QZ{β:Type}(l:List (List UInt8×β)):Option (List (List UInt8)):=
 match l.map Qq6 with
 | []=>some []
 | [a]=>if a.length<1000 then some [a] else none
 | [a,b]=>if a.length<1000/\b.length<1000/\a≠b then some (if leB a b then[a,b] else[b,a]) else none
 | _=>none
theorem W9{β:Type}(l:List (List UInt8×β)):Go.L.Ap (QZ l) (MD l):=by
 intro r h;have hm:(1000:Nat)<=maxLen:=by decide
 have hl:(l.map Qq6).length=l.length:=Qzk ..
 suffices key:SF l/\some ((l.map Qq6).mergeSort leB)=some r by
  unfold MD;rw [Go.L.Ac key.1];exact key.2
 unfold SF;rw [<- hl];unfold QZ at h;generalize l.map Qq6=k at *
 match k,h with
 | [],h=>
  cases h
  exact⟨⟨List.nodup_nil,fun x hx=>(by cases hx),by decide⟩,by simp⟩
 | [a],h=>
  simp only at h
  split at h
  ·rename_i ha
   cases h
   exact⟨⟨by simp,fun x hx=>(by rw [Qzf.1 hx];omega),by simp⟩,by simp⟩
  ·cases h
 | [a,b],h=>
  simp only at h
  split at h
  ·rename_i ha;obtain⟨c,h2,h3⟩:=ha
   cases h
   refine⟨⟨by simp [h3],fun x hx=>?_,by simp⟩,?_⟩
   ·rcases Qzy.1 hx with rfl | hx
    ·omega
    ·rw [Qzf.1 hx];omega
   ·simp [List.mergeSort,List.merge,List.MergeSort.Internal.splitInTwo]
  ·cases h
 | _::_::_::_,h=>cases h
instance {β:Type} (l:List (List UInt8×β)):Go.L.Mi (MD l):=⟨QZ l,W9 l⟩
end Go.Proofs.YtekmbcbgknmhiaaGreatDoor
end
