/- Texts of a claim, merged. -/
import Derived.Test.YtnmkjjgmnbmmnaaGreatDoorLa4
import Derived.KernelRfl
open _root_.Go.Proofs.Tryz renaming underlying57→Aa0,underlying60→Aa1,underlying32→Aa3,underlying22→Aag,underlying27→Aaj,underlying50→Aak,underlying38→Aam,underlying31→Aan,underlying25→Aas,underlying23→Aat,underlying34→Aaz
open Option renaming bind->Qq8,bind_some->Qq9,map->Qzq
open List renaming length_append->Qzk,length_cons->Qzj,drop_eq_getElem_cons->Qz1,length_drop->QzQ,length_map->Qzf,getD_eq_getElem?_getD->Qz7,length_nil->QzB,getElem_eq_getD->Qz6,mem_cons->QzJ,length_singleton->Qxb,append_assoc->Qxz,range->QzE,drop_eq_nil_of_le->Qxf,all_eq_true->Qxe,getD_cons_zero->QxD,append_nil->Qxv
open UInt8 renaming ofNat->Qzv,toNat_ofNat'->QxJ
open Bool renaming and_eq_true->Qza
open Int renaming toNat_of_nonneg->QzK
open Nat renaming zero_le->Qzb
set_option linter.unusedVariables false
set_option linter.unusedSimpArgs false
set_option linter.unusedSectionVars false
noncomputable section
namespace Go.Proofs.YtnmkjjgmnbmmnaaGreatDoor
open Go Go.E Go.RowKit Go.L
theorem Vo(x:Int):∀(l:Qq4) (k:Nat),l.length<1000000->k<=l.length->∃r,Cy l x (k:Int)=some r/\(0<=r↔x∈l.drop k):=by
 intro l k hl hk;generalize hd:l.length - k=d
 induction d generalizing k with
 | zero=>
  have:k=l.length:=by omega
  subst this;refine⟨-1,?_,by simp⟩;unfold Cy;refine BA (m:=some (-1)) ?_;unfold Cr D7;rw[if_neg U]
 | succ d ih=>
  have hlt:k<l.length:=by omega
  have hm:l.getD k Qq1=l[k]:=by simp[Qz7,hlt]
  have a:(k:Int).toNat=k:=Z
  by_cases h:x=l[k]
  ·refine⟨k,?_,?_⟩
   ·unfold Cy;refine BA (m:=some (k:Int)) ?_;unfold Cr;rw[if_pos U,An,a,hm,if_pos h]
   ·rw[Qz1 hlt,QzJ];exact⟨fun _=>.inl h,fun _=>by omega⟩
  ·obtain⟨r,h1,h2⟩:=ih (k+1) U U;refine⟨r,?_,?_⟩
   ·unfold Cy at h1 ⊢;rw[BK (s':=((k+1:Nat):Int)) ?_,h1];unfold Cr;rw[if_pos U,An,a,hm,if_neg h,An (h:=(by unfold BH;omega))]
    rfl
   ·rw[Qz1 hlt,QzJ,h2];exact⟨.inr,fun q=>q.resolve_left h⟩
theorem contains_eq{l:Qq4}(x:Int)(hl:l.length<1000000):Cf l x=some (decide (x∈l)):=by
 obtain⟨r,h1,h2⟩:=Vo x l 0 hl (Qzb _);unfold Cf ED;rw[show(0:Int)=((0:Nat):Int)from Z,h1,Qq9];rw[List.drop_zero]at h2;simp only[Option.some.injEq,decide_eq_decide];exact h2
def Ye(r:QV):Option Nat:=
 if r.2.1=1 then(match r.2.2.1 with | b::_=>some (2 ^ b.toNat) | []=>none)
 else if r.2.1=2 then
  let s:=(r.2.2.2.2.2.1 / 2 ^ ((8:Int) * (r.2.2.2.1 - 1)).toNat).toNat
  let t:=(r.2.2.2.2.2.2.1 / 2 ^ ((8:Int) * (r.2.2.2.1 - 1)).toNat).toNat
  if r.2.2.2.2.1=true/\0<=r.2.2.2.2.2.1/\0<=r.2.2.2.2.2.2.1/\s<=t/\t<256/\1<=r.2.2.2.1/\r.2.2.2.1<=4 then some (Sp (t+1 - s) s 0)else none
 else if r.2.1=4 then some (Sp 256 0 0)
 else if r.2.1=6\/r.2.1=7\/r.2.1=8\/r.2.1=10 then some 0 else none
theorem WH(r:QV):CU r=some (decide (r.2.1∈([3,5,9]:Qq4))):=by
 unfold CU Hx;rw[contains_eq _ Qqb]
 rfl
theorem Yf{r:QV}{m:Nat}(h:Ye r=some m):JR r=some (IV m):=by
 unfold Ye at h;unfold JR
 by_cases h1:r.2.1=1
 ·rw[if_pos h1]at h ⊢
  cases hb:r.2.2.1 with
  | nil=>rw[hb]at h;cases h
  | cons b l=>
   rw[hb]at h;obtain rfl:=Option.some.inj h;have d:=b.toNat_lt;have e:(b::l).getD ((0:Int).toNat) Qq1=b:=Z;rw[An (h:=(by simp only[Qzj];omega)),e,An,Nq,show((b.toNat:Int)).toNat=b.toNat from Z,T6 U,Nat.zero_or]
 ·rw[if_neg h1]at h ⊢
  by_cases h2:r.2.1=2
  ·rw[if_pos h2]at h;dsimp only at h
   split at h
   ·rename_i hc;obtain⟨c1,c2,c3,c4,c5,c6,c7⟩:=hc;obtain rfl:=Option.some.inj h;rw[if_pos (by rw[decide_eq_true h2,c1];rfl)];have p:(0:Int)<2 ^ ((8:Int) * (r.2.2.2.1 - 1)).toNat:=Int.pow_pos Qqb;have q1:=Int.ediv_nonneg c2 (Int.le_of_lt p);have c:=Int.ediv_nonneg c3 (Int.le_of_lt p);rw[An (h:=(by unfold BH;omega)),An (h:=(by unfold BH;omega)),An,An,Nq,<- QzK q1,<- QzK c,T7 c4 c5]
    rfl
   ·cases h
  ·rw[if_neg h2]at h;rw[if_neg (by rw[decide_eq_false h2];simp),if_neg h2]
   by_cases a:r.2.1=4
   ·rw[if_pos a]at h;obtain rfl:=Option.some.inj h;rw[if_neg U,if_pos a];unfold II;have e:=T7 (s:=0) (t:=255) (m:=0) U U;rw[if_pos (by simp[a]),Nq]
    show Qq8 (J7 ((0:Nat):Int) ((255:Nat):Int) (IV 0)) some=_
    rw[e]
    rfl
   ·rw[if_neg a]at h
    split at h
    ·rename_i hc;obtain rfl:=Option.some.inj h;rw[if_neg U,if_neg U];unfold II;rw[if_neg (by simp;omega),WH,Qq9,if_neg (by simp;omega),Nq]
    ·cases h
theorem Yg{r:QV}{M:List Nat}{k i a:Nat}(hi:((r.2.2.2.2.2.2.2.2.2.2.2.getD k Qq1).toNat)=i)(hM:i<M.length)(hk:k<1000)(hd:a &&& M.getD i 0=0):
  Ls r (M.map IV) (k:Int) (IV a,0)=some (.inl (IV (a ||| M.getD i 0),((k+1:Nat):Int))):=by
 have key:=JP (Fg r (M.map IV) (k:Int)) (fun c=>(mix c (IV a) (IV (M.getD i 0)),(c:Int))) 256 (some (.inl (IV (a ||| M.getD i 0),((k+1:Nat):Int)))) (fun c hc=>?_) ?_ 0 U
 ·rw[Sn]at key;exact key
 ·unfold Fg;dsimp only;have f:(k:Int).toNat=k:=Z;have g:(c:Int).toNat=c:=Z;have hm:mix c (IV a) (IV (M.getD i 0)) c=IV a c:=by unfold mix;rw[if_neg (Nat.lt_irrefl _)]
  rw[if_pos U,An,f,g,hi,getD_map hM,hm]
  have hno : ¬(IV (M.getD i 0) c=true/\IV a c=true):=by
   rintro⟨d,e⟩;unfold IV at d e;simp only[Qza]at d e;have:(a &&& M.getD i 0).testBit c=true:=by rw[Nat.testBit_and,d.2,e.2];rfl
   rw[hd]at this;simp at this
  by_cases h:IV (M.getD i 0) c=true
  ·have h':IV a c=false:=by
    cases h2:IV a c
    ·rfl
    ·exact absurd ⟨h,h2⟩ hno
   rw[if_pos h,An,h',if_neg Qqc,An,An,An (h:=(by unfold BH;omega))];simp only[cond_false];rw[O1 (by rw[h'];rfl)]
   rfl
  ·rw[if_neg h,An,An,An (h:=(by unfold BH;omega)),O1 (by cases IV a c <;> rfl)]
   rfl
 ·unfold Fg Jn;dsimp only;rw[if_neg U,An (h:=(by unfold BH;omega)),T5]
  rfl
def WI(M:List Nat):Qq4->Nat->Bool
 | [],_=>true
 | i::x,a=>decide (0<=i/\i.toNat<M.length)&&decide (a &&& M.getD i.toNat 0=0)&&WI M x (a ||| M.getD i.toNat 0)
theorem Yh{r:QV}{M:List Nat}{p:Qq4}(hp:r.2.2.2.2.2.2.2.2.2.2.2=p)(hl:p.length<1000):∀(k a:Nat),k<=p.length->WI M (p.drop k) a=true->GY r (M.map IV) (IV a,(k:Int))=some false:=by
 intro k a hk hd;subst hp;generalize hn:r.2.2.2.2.2.2.2.2.2.2.2.length - k=n
 induction n generalizing k a with
 | zero=>
  have:k=r.2.2.2.2.2.2.2.2.2.2.2.length:=by omega
  unfold GY;refine BA (m:=some false) ?_;unfold G1 GX;dsimp only;rw[if_neg U]
 | succ n ih=>
  have hlt:k<r.2.2.2.2.2.2.2.2.2.2.2.length:=by omega
  have hm:r.2.2.2.2.2.2.2.2.2.2.2.getD k Qq1=r.2.2.2.2.2.2.2.2.2.2.2[k]:=by simp[Qz7,hlt]
  rw[Qz1 hlt]at hd;simp only[WI,Qza,decide_eq_true_eq]at hd;obtain⟨⟨⟨b,h1⟩,h2⟩,h3⟩:=hd;have:=ih (k+1) (a ||| M.getD r.2.2.2.2.2.2.2.2.2.2.2[k].toNat 0) U h3 U;unfold GY at this ⊢;rw[BK (s':=(IV (a ||| M.getD r.2.2.2.2.2.2.2.2.2.2.2[k].toNat 0),((k+1:Nat):Int))) ?_,this];unfold G1;dsimp only;rw[if_pos U,An,show(k:Int).toNat=k from Z,hm,An (h:=(by rw[Qzf];omega))];exact Yg (by rw[hm]) h1 U h2
def Vp(M:List Nat)(r:QV):Bool:=
 if r.2.1=9 then false
 else if r.2.1=8 then decide (r.2.2.2.2.2.2.2.2.2.2.2.length<1000)&&WI M r.2.2.2.2.2.2.2.2.2.2.2 0 else true
theorem WJ{M:List Nat}{r:QV}(h:Vp M r=true):IU r (M.map IV)=some false:=by
 unfold Vp at h;unfold IU
 by_cases a:r.2.1=9
 ·rw[if_pos a]at h
  cases h
 ·rw[if_neg a]at h ⊢
  by_cases b:r.2.1=8
  ·rw[if_pos b]at h ⊢;simp only[Qza,decide_eq_true_eq]at h;rw[Nq];exact Yh Z h.1 0 0 (Qzb _) (by rw[List.drop_zero];exact h.2)
  ·rw[if_neg b]
   rfl
theorem T8{p:Nat->Bool}(h:(QzE 19).all p=true){k:Nat}(hk:k<19):p k=true:=by
 rw[Qxe]at h;exact h k (List.mem_range.2 hk)
theorem Yi{k:Nat}(hk:k<19):JR (SF.getD k Qq1)=some (IV (SO.getD k 0)):=by
 have h:(QzE 19).all (fun k=>decide (Ye (SF.getD k Qq1)=some (SO.getD k 0)))=true:=by kernel_rfl
 exact Yf (of_decide_eq_true (T8 h hk))
theorem Um{k:Nat}(hk:k<19):Dt (SF.getD k Qq1)=some (SB.getD k []):=by
 have h:(QzE 19).all (fun k=>decide ((inferInstance:Mi (Dt (SF.getD k Qq1))).c=some (SB.getD k [])))=true:=by kernel_rfl
 exact(inferInstance:Mi (Dt (SF.getD k Qq1))).h _ (of_decide_eq_true (T8 h hk))
theorem QY:IJ SF=some (SM.map IV):=by
 have hx:(QzE 19).all (fun k=>(SB.getD k []).all (fun i=>decide (0<=i/\i<19))&&decide ((SB.getD k []).length<1000))=true:=by kernel_rfl
 have:=Ug (F:=SF) (B:=SB) V Qqb (fun k hk=>Um hk) (fun k hk=>by
  have h:=T8 hx hk;simp only[Qza,Qxe,decide_eq_true_eq]at h;exact h) (M:=SO) V (fun k hk=>Yi hk)
 rw[this];have e:rounds SB SF.length SO=SM:=by kernel_rfl
 rw[e]
theorem Ze:Hq SF=some (0,0):=by
 have hA:=Vn;unfold Zc at hA;obtain⟨c,h1,hA⟩:=bind_some hA;obtain⟨a,h2,hA⟩:=bind_some hA;obtain⟨_,_,hA⟩:=bind_some hA;obtain⟨_,_,hA⟩:=bind_some hA;have h3:a<0:=by simpa using hA
 unfold Hq;rw[h1,Qq9,h2,Qq9,if_neg U,QY,Qq9];have hc:(QzE 19).all (fun k=>Vp SM (SF.getD k Qq1))=true:=by kernel_rfl
 refine JP (GC SF (SM.map IV)) (fun i=>(i:Int)) 19 (some (0,0)) (fun i hi=>?_) ?_ 0 U
 ·unfold GC;have hl:(SF.length:Int)=19:=by decide
  rw[if_pos U,An,show(i:Int).toNat=i from Z,WJ (T8 hc hi),Qq9,if_neg Qqc,An (h:=(by unfold BH;omega))]
  rfl
 ·unfold GC KE;have hl:(SF.length:Int)=19:=by decide
  rw[if_neg U]
instance Aab (a:List QV):Mi (Hq a):=⟨if a=SF then some (0,0)else none,fun r h=>by
 split at h
 ·rename_i e;subst e;rw[Ze];exact h
 ·cases h⟩
noncomputable section
instance:Mi (EU):=by delta EU;repeat' first | (show Mi _;infer_instance) | refine @iB _ _ _ _ ?_ (fun _=>?_) | refine @iC _ _ _ _ ?_ | refine @iI _ _ _ _ _ ?_ ?_
instance (a0) (a1):Mi (Km a0 a1):=by delta Km;infer_instance
instance:Mi (Ct):=by delta Ct;infer_instance
instance (a0) (a1_c0) (s):Mi (Cm a0 a1_c0 s):=by delta Cm;infer_instance
instance (a0) (a1_c0) (s):Mi (Dd a0 a1_c0 s):=by delta Dd;infer_instance
instance (a0) (a1_c0):Mi (CA a0 a1_c0):=by delta CA;infer_instance
instance (a0) (a1):Mi (K2 a0 a1):=by delta K2;infer_instance
instance (a0):Mi (B6 a0):=by delta B6;infer_instance
instance (a1) (b) (a):Mi (Gj a1 b a):=by delta Gj;infer_instance
instance (a1) (b) (a):Mi (Gk a1 b a):=by delta Gk;repeat' first | (show Mi _;infer_instance) | refine @iB _ _ _ _ ?_ (fun _=>?_) | refine @iC _ _ _ _ ?_ | refine @iI _ _ _ _ _ ?_ ?_
instance (a0) (a1) (a):Mi (HI a0 a1 a):=by delta HI;repeat' first | (show Mi _;infer_instance) | refine @iB _ _ _ _ ?_ (fun _=>?_) | refine @iC _ _ _ _ ?_ | refine @iI _ _ _ _ _ ?_ ?_
instance (a0) (a1) (a2) (s):Mi (Hg a0 a1 a2 s):=by obtain⟨b,a⟩:=s;delta Hg;dsimp only;infer_instance
instance (a0) (a1) (a2) (s):Mi (JB a0 a1 a2 s):=by delta JB;infer_instance
instance (a0) (a1) (a2):Mi (JC a0 a1 a2):=by delta JC;infer_instance
instance (a0):Mi (Gn a0):=by delta Gn;infer_instance
instance (a0) (a1) (a2):Mi (Hw a0 a1 a2):=by delta Hw;infer_instance
instance (a0):Mi (AU a0):=by delta AU;infer_instance
instance (a0):Mi (Du a0):=by delta Du;infer_instance
instance (a0):Mi (Fb a0):=by delta Fb;infer_instance
instance (a0):Mi (Kk a0):=by delta Kk;repeat' first | (show Mi _;infer_instance) | refine @iB _ _ _ _ ?_ (fun _=>?_) | refine @iC _ _ _ _ ?_ | refine @iI _ _ _ _ _ ?_ ?_
instance (a0) (a1):Mi (Fc a0 a1):=by delta Fc;infer_instance
instance (a0) (a1_0_c0):Mi (IW a0 a1_0_c0):=by delta IW;infer_instance
instance:Mi (DF):=by delta DF;infer_instance
instance (a0) (a1_c0_0_c0) (s):Mi (Dy a0 a1_c0_0_c0 s):=by delta Dy;infer_instance
instance (a0) (a1_c0_0_c0) (s):Mi (Fm a0 a1_c0_0_c0 s):=by delta Fm;infer_instance
instance (a0) (a1_c0_0_c0):Mi (E5 a0 a1_c0_0_c0):=by delta E5;infer_instance
instance (a0) (a1_c0_0_c0):Mi (DG a0 a1_c0_0_c0):=by delta DG;infer_instance
instance (a0) (a1):Mi (Kl a0 a1):=by delta Kl;repeat' first | (show Mi _;infer_instance) | refine @iB _ _ _ _ ?_ (fun _=>?_) | refine @iC _ _ _ _ ?_ | refine @iI _ _ _ _ _ ?_ ?_
instance (a0) (a2) (a):Mi (Fh a0 a2 a):=by delta Fh;infer_instance
instance (a0) (a1) (a2):Mi (Iu a0 a1 a2):=by delta Iu;repeat' first | (show Mi _;infer_instance) | refine @iB _ _ _ _ ?_ (fun _=>?_) | refine @iC _ _ _ _ ?_ | refine @iI _ _ _ _ _ ?_ ?_
instance:Mi (Dl):=by delta Dl;infer_instance
instance (a0) (a1) (s):Mi (CW a0 a1 s):=by delta CW;infer_instance
instance (a0) (a1) (s):Mi (EE a0 a1 s):=by delta EE;infer_instance
instance (a0) (a1):Mi (CQ a0 a1):=by delta CQ;infer_instance
instance (a0) (a1):Mi (Cg a0 a1):=by delta Cg;infer_instance
instance (a1) (a) (b):Mi (F3 a1 a b):=by delta F3;repeat' first | (show Mi _;infer_instance) | refine @iB _ _ _ _ ?_ (fun _=>?_) | refine @iC _ _ _ _ ?_ | refine @iI _ _ _ _ _ ?_ ?_
instance:Mi (Hc):=by delta Hc;infer_instance
instance (a0) (a1) (s):Mi (G3 a0 a1 s):=by delta G3;infer_instance
instance (a0) (a1) (s):Mi (Jo a0 a1 s):=by delta Jo;infer_instance
instance (a0) (a1):Mi (F4 a0 a1):=by delta F4;infer_instance
instance (a0) (a1):Mi (IY a0 a1):=by delta IY;infer_instance
instance (a0):Mi (Gg a0):=by delta Gg;infer_instance
instance (_l65):Mi (Iv _l65):=by delta Iv;infer_instance
instance (a0) (a1) (s):Mi (HH a0 a1 s):=by obtain⟨a,b⟩:=s;delta HH;dsimp only;repeat' first | (show Mi _;infer_instance) | refine @iB _ _ _ _ ?_ (fun _=>?_) | refine @iC _ _ _ _ ?_ | refine @iI _ _ _ _ _ ?_ ?_
instance (a0) (a1) (s):Mi (Kc a0 a1 s):=by delta Kc;infer_instance
instance (a0) (a1):Mi (Kn a0 a1):=by delta Kn;infer_instance
instance (a0) (s):Mi (Iw a0 s):=by delta Iw;infer_instance
instance (a0) (s):Mi (KF a0 s):=by delta KF;infer_instance
instance (a0):Mi (Jc a0):=by delta Jc;infer_instance
instance (a0) (s):Mi (Ix a0 s):=by delta Ix;infer_instance
instance (a0) (s):Mi (KG a0 s):=by delta KG;infer_instance
instance (a0):Mi (Jd a0):=by delta Jd;infer_instance
instance (a0) (s):Mi (Iy a0 s):=by delta Iy;infer_instance
instance (a0) (s):Mi (KH a0 s):=by delta KH;infer_instance
instance (a0):Mi (KZ a0):=by delta KZ;infer_instance
instance (a0) (a1) (a2):Mi (CV a0 a1 a2):=by delta CV;infer_instance
instance (a0) (a1) (c) (a) (b):Mi (GA a0 a1 c a b):=by delta GA;infer_instance
instance (a):Mi (J8 a):=by delta J8;infer_instance
instance (a0) (a1) (s):Mi (IZ a0 a1 s):=by obtain⟨b,a⟩:=s;delta IZ;dsimp only;repeat' first | (show Mi _;infer_instance) | refine @iB _ _ _ _ ?_ (fun _=>?_) | refine @iC _ _ _ _ ?_ | refine @iI _ _ _ _ _ ?_ ?_
instance (a0) (a1) (s):Mi (Lt a0 a1 s):=by delta Lt;infer_instance
instance (a0) (a1) (c) (b) (a):Mi (HT a0 a1 c b a):=by delta HT;repeat' first | (show Mi _;infer_instance) | refine @iB _ _ _ _ ?_ (fun _=>?_) | refine @iC _ _ _ _ ?_ | refine @iI _ _ _ _ _ ?_ ?_
instance (a0) (a1) (b) (a):Mi (J9 a0 a1 b a):=by delta J9;infer_instance
instance (a0) (a1) (b) (s):Mi (Ja a0 a1 b s):=by obtain⟨c,a⟩:=s;delta Ja;dsimp only;repeat' first | (show Mi _;infer_instance) | refine @iB _ _ _ _ ?_ (fun _=>?_) | refine @iC _ _ _ _ ?_ | refine @iI _ _ _ _ _ ?_ ?_
instance (a0) (a1) (a) (s):Mi (Lu a0 a1 a s):=by delta Lu;infer_instance
instance (a0) (a1) (a):Mi (JA a0 a1 a):=by delta JA;infer_instance
instance (a0) (a1):Mi (LL a0 a1):=by delta LL;infer_instance
instance (a):Mi (Je a):=by delta Je;infer_instance
instance (a0) (s):Mi (Iz a0 s):=by obtain⟨b,a⟩:=s;delta Iz;dsimp only;infer_instance
instance (a0) (s):Mi (KI a0 s):=by delta KI;infer_instance
instance (a0):Mi (La a0):=by delta La;infer_instance
instance (a0):Mi (Dz a0):=by delta Dz;infer_instance
instance (a):Mi (Jf a):=by delta Jf;infer_instance
instance (b) (c) (s):Mi (I0 b c s):=by obtain⟨d,a⟩:=s;delta I0;dsimp only;infer_instance
instance (a) (b) (s):Mi (KK a b s):=by delta KK;infer_instance
instance (a) (b):Mi (Jg a b):=by delta Jg;infer_instance
instance (a0) (a1) (a):Mi (C2 a0 a1 a):=by delta C2;infer_instance
instance (a0) (a1):Mi (DV a0 a1):=by delta DV;infer_instance
instance (a0) (a1):Mi (E6 a0 a1):=by delta E6;infer_instance
instance (a0) (a1):Mi (K1 a0 a1):=by delta K1;infer_instance
instance (a0) (a1):Mi (strings_Split a0 a1):=by delta strings_Split;infer_instance
instance (a0):Mi (BZ a0):=by delta BZ;infer_instance
instance (c) (a) (b):Mi (Gi c a b):=by delta Gi;infer_instance
instance (b) (s):Mi (FN b s):=by obtain⟨c,d,a⟩:=s;delta FN;dsimp only;repeat' first | (show Mi _;infer_instance) | refine @iB _ _ _ _ ?_ (fun _=>?_) | refine @iC _ _ _ _ ?_ | refine @iI _ _ _ _ _ ?_ ?_
instance (a) (s):Mi (HU a s):=by delta HU;infer_instance
instance (a0):Mi (HG a0):=by delta HG;infer_instance
instance (a0):Mi (D8 a0):=by delta D8;infer_instance
instance (a0):Mi (G4 a0):=by delta G4;infer_instance
instance (a0) (a1) (a):Mi (Eu a0 a1 a):=by delta Eu;infer_instance
instance (a0) (a1):Mi (D1 a0 a1):=by delta D1;infer_instance
instance (b) (c) (d) (e) (a):Mi (DW b c d e a):=by delta DW;infer_instance
instance (a) (b) (c) (d):Mi (Df a b c d):=by delta Df;infer_instance
instance (a) (b) (c) (d):Mi (Fo a b c d):=by delta Fo;infer_instance
instance (a1) (s):Mi (ET a1 s):=by obtain⟨a,b,c,d⟩:=s;delta ET;dsimp only;infer_instance
instance (a1) (s):Mi (Hd a1 s):=by delta Hd;infer_instance
instance (a0) (a1):Mi (G5 a0 a1):=by delta G5;infer_instance
instance (b) (c) (m) (d) (e) (f) (g) (h) (i) (j) (k) (l) (a):Mi (F5 b c m d e f g h i j k l a):=by delta F5;infer_instance
instance (a) (b) (c) (h) (i) (j) (k) (d) (e) (f) (g):Mi (F6 a b c h i j k d e f g):=by delta F6;infer_instance
instance (a) (b) (c) (g) (h) (i) (j) (d) (e) (f):Mi (F7 a b c g h i j d e f):=by delta F7;infer_instance
instance (a) (b) (c) (g) (h) (i) (j) (d) (e) (f):Mi (F8 a b c g h i j d e f):=by delta F8;infer_instance
instance (a) (b) (g) (h) (i) (j) (c) (d) (e) (f):Mi (F9 a b g h i j c d e f):=by delta F9;infer_instance
instance (f) (g) (h) (i) (a) (b) (c) (d) (e):Mi (FA f g h i a b c d e):=by delta FA;infer_instance
instance (a) (b) (g) (c) (d) (e) (f):Mi (FB a b g c d e f):=by delta FB;infer_instance
instance (a) (f) (b) (c) (d) (e):Mi (FC a f b c d e):=by delta FC;infer_instance
instance (a) (b) (c):Mi (He a b c):=by delta He;infer_instance
instance (a0):Mi (Jb a0):=by delta Jb;repeat' first | (show Mi _;infer_instance) | refine @iB _ _ _ _ ?_ (fun _=>?_) | refine @iC _ _ _ _ ?_ | refine @iI _ _ _ _ _ ?_ ?_
instance (s):Mi (I1 s):=by obtain⟨c,d,a,b⟩:=s;delta I1;dsimp only;infer_instance
instance (s):Mi (KL s):=by delta KL;infer_instance
instance (a0):Mi (I2 a0):=by delta I2;infer_instance
instance:Mi (Zd):=by delta Zd;infer_instance
theorem Vq:Zd=some true:=(inferInstance:Mi Zd).h true V
end
end Go.Proofs.YtnmkjjgmnbmmnaaGreatDoor
end
noncomputable section
namespace Go.Proofs.YtnmkjjgmnbmmnaaGreatDoor
open Go Go.E Go.RowKit Go.L
set_option maxHeartbeats 1000000
set_option maxRecDepth 10000
open _root_.Go.Proofs.Tryz
def Gp(a0:List Pv):Option (Pv):=
 some ((Pv.mk (3:Int) (0:Int) ([]) ([]) a0))
section
variable(w:World)(H:PH)(hH:Le H (hp w)) include hH
theorem Kd{a0:List Pv}{a:Value}(b:AL .tree H a a0){r:Pv}(h:Gp a0=some r):
  Qqv 51 [a] w (fun v w'=>∃d e g,v=.agg #[No r.f.1,No r.f.2.1,d,e,g]/\Cv 5 .byte H w w' d (r.f.2.2.1)/\Cv 9 .st H w w' e (r.f.2.2.2.1)/\AL .tree (un H (nw w w')) g (r.f.2.2.2.2)):=by
 refine AG 5 [(0,a)] func51 Z fun hL=>Aq<|AZ B5.e Z hL fun m o j k _=>Al<|B1 1 Z<|Ag (B7 (fun _=>Ud _ _ b.one _))<|A7 0 Z j Z (h1:=(BP Z (BP Z (BP Z (BP Z (BP b.one Mx)))))) fun p c l=>Al<|Au ?_
 cases h
 refine DO (.cell Z Aaz Z B5.e (Bo (i:=0) c Z)) ⟨c.ext,_,_,_,Z,Cv.nil,Cv.nil,(b.mono (GP hH))⟩
def Hr(a0:Int):Option (Pv):=
 some ((Pv.mk (1:Int) a0 ([]) ([]) ([])))
theorem Lv{a0:Int}{r:Pv}(h:Hr a0=some r):
  Qqv 52 [No a0] w (fun v w'=>∃b c d,v=.agg #[No r.f.1,No r.f.2.1,b,c,d]/\Cv 5 .byte H w w' b (r.f.2.2.1)/\Cv 9 .st H w w' c (r.f.2.2.2.1)/\Cv 34 .tree H w w' d (r.f.2.2.2.2)):=by
 refine AG 5 [(0,No a0)] func52 Z fun hL=>Aq<|AZ B5.e Z hL fun k l e g _=>Al<|B1 1 Z<|Ag (B7 (fun _=>QS _ _ _))<|A7 0 Z e Z fun m a j=>Al<|Au ?_
 cases h
 refine DO (.cell Z Aaz Z B5.e (Bo (i:=0) a Z)) ⟨a.ext,_,_,_,Z,Cv.nil,Cv.nil,Cv.nil⟩
def EH(a0:Aae):Option (Pv):=
 Qq8 (Cl a0) (fun a=>some ((Pv.mk (2:Int) (0:Int) a ([]) ([]))))
theorem LM{a0:Aae}{b:Value}(g:AL .byte H b a0){r:Pv}(h:EH a0=some r):
  Qqv 54 [b] w (fun v w'=>∃k l m,v=.agg #[No r.f.1,No r.f.2.1,k,l,m]/\AL .byte (un H (nw w w')) k (r.f.2.2.1)/\Cv 9 .st H w w' l (r.f.2.2.2.1)/\Cv 34 .tree H w w' m (r.f.2.2.2.2)):=by
 refine AG 6 [(0,b)] func54 Z fun hL=>Aq<|AZ B5.e Z hL fun x y c s _=>Al<|B1 1 Z<|Av h fun z o h=>Bv c (Ep _ _ (Ao c) (g.mono  Ai) o) ?_;rintro t w3 ⟨_,rfl,d⟩ p q u;have a:=d.Dj hH c p;refine Ag (B7 (fun _=>QT _ _ a.one _))<|A7 0 Z q Z (h1:=(BP Z (BP Z (BP a.one (BT Z))))) fun w4 e j=>Al<|Au ?_
 cases h
 refine DO (.cell Z Aaz Z B5.e (Bo (i:=0) e Z)) ?_;have a:=a.mono (Ac j);exact⟨e.ext,_,_,_,Z,(a.mono (GQ hH)),Cv.nil,Cv.nil⟩
def E0(a0:AaE)(a1:Int):Option Bool:=
 if a0.2.2.2.2.2.1<=a1 then some (decide (a1<=a0.2.2.2.2.2.2.1))else some false
theorem JM{a0:AaE}{a1:Int}{b c d:Value}(_h0_0:AL .byte H b (a0.2.2.1))(_h0_1:AL .st H c (a0.2.2.2.2.2.2.2.2.2.2.1))(_h0_2:AL (.int .i64) H d (a0.2.2.2.2.2.2.2.2.2.2.2)){r:Bool}(h:E0 a0 a1=some r):
  Qqv 106 [.agg #[Aad a0.1,No a0.2.1,b,No a0.2.2.2.1,.bool a0.2.2.2.2.1,No a0.2.2.2.2.2.1,No a0.2.2.2.2.2.2.1,No a0.2.2.2.2.2.2.2.1,No a0.2.2.2.2.2.2.2.2.1,No a0.2.2.2.2.2.2.2.2.2.1,c,d],No a1] w (fun v w'=>v=.bool r):=by
 refine AG 15 [(0,.agg #[Aad a0.1,No a0.2.1,b,No a0.2.2.2.1,.bool a0.2.2.2.2.1,No a0.2.2.2.2.2.1,No a0.2.2.2.2.2.2.1,No a0.2.2.2.2.2.2.2.1,No a0.2.2.2.2.2.2.2.2.1,No a0.2.2.2.2.2.2.2.2.2.1,c,d]),(1,No a1)] func106 Z fun hL=>Aq<|Cj (t:=50) Z Z hL fun g i e f _=>A1 1 Z<|B1 1 Z<|Ag (Af Z Aak Z B4.e)<|Ag (Ae 0 Z e Z)<|Ar 2 Z<|AQ 9 h ?_ ?_<;>intro a h
 ·refine Aa a<|Ag (Ad Z)<|Aa a<|Ag (Af Z Aak Z B4.e)<|Aa a<|Ag (Ae 0 Z e Z)<|Aa a<|Ag (Ad Z)<|Ag (Ak a Z)<|A1 1 Z<|Au ?_
  cases h
  refine Aj Z ⟨e.ext,Z⟩
 iterate 4 refine Ab a ?_
 refine Ag (Am a Z)<|A1 1 Z<|Au ?_
 cases h
 refine Aj Z ⟨e.ext,Z⟩
def DX(a0:Aae):Option Bool:=
 some (decide (a0=([]:Aae)))
theorem I7{a0:Aae}{r:Bool}(h:DX a0=some r):
  Qqv 109 [Aad a0] w (fun v w'=>v=.bool r):=by
 refine AG 5 [(0,(Aad a0))] func109 Z fun hL=>AI 1 Z<|B1 1 Z<|Ag (Ll Z Z)<|A1 1 Z<|Au ?_
 cases h
 refine Aj Z ⟨hL.ext,Z⟩
def JD:Option Int:=
 some ((-1))
def Jh(a0:List Aae):Int->Option ((Int)⊕(Int)):=fun a=>
 if a<(a0.length:Int)then Bb (0<=a/\a<(a0.length:Int)) (Qq8 (DX (a0.getD a.toNat Qq1)) (fun b=>if b then Qzq Sum.inr (some a)else Bb (BH (a+1)) (some (Sum.inl (a+1)))))else Qzq Sum.inr JD
def Lw(a0:List Aae)(s:Int):Option Int:=Go.L.run (Jh a0) s
def LN(a0:List Aae):Option Int:=
 (Lw a0) (0:Int)
theorem Ql{a0:List Aae}{b:Value}(e:AL .st H b a0){r:Int}(h:LN a0=some r):
  Qqv 148 [b,.func (.func 109) #[] #[]] w (fun v w'=>v=No r):=by
 refine AG 19 [(0,b),(1,.func (.func 109) #[] #[])] func148 Z fun hL=>AI 1 Z<|Bm Unit (fun(_:Unit)=>[]) (fun(_:Unit) wr=>AW w [] wr/\JD=some r) ?_ ?_
 ·refine B1 1 Z<|Ag (AT e)<|A1 1 Z<|A8 ?_;obtain⟨f,h⟩:=Bc h;refine Bz (Int×Nat) (fun⟨a,n⟩=>[(0,b),(1,.func (.func 109) #[] #[]),(7,No (a0.length:Int)),(8,No a)]) (fun⟨a,n⟩ wr=>AW w [] wr/\FW (Jh a0) n a=some r) (fun⟨a,n⟩=>n) (0,f) Z ⟨hL,h⟩ ?_;rintro⟨a,nn42⟩ s ⟨c,h⟩;obtain⟨f,x,rfl,h,d⟩:=Ba h;refine AI 1 Z<|AM<|AS h ?_ ?_<;>intro j h
  ·refine A4<|A2<|AM<|A8<|AI 2 Z<|B1 3 Z<|A3 h fun g h=>Bf e a.toNat (CT g) (AD g) ?_;rintro y _ rfl k;refine Ag (AX k (hH.trans c.arg))<|Av h fun z l h=>Nn c (I7 _ _ (Ao c) l) ?_;rintro _ aa rfl t i q;refine Al<|Bi h ?_ ?_<;>intro m h
   ·refine AI 2 Z<|Au<|Ay<|AE<|BM ?_;have h:=BW.out h d;refine Ay<|Bp ?_
    cases h
    refine Aj Z ⟨i.ext,Z⟩
   refine A4<|A9<|A2<|Az<|A3 h fun o h=>Ag (AA o)<|Ar 1 Z<|AP ?_;have h:=BW.again h d;refine AN (_,_) ⟨i,h⟩
  refine Bq<|AK<|AF ?_;have h:=BW.out h d;refine Bj<|AH () ⟨c,h⟩
 rintro _ u ⟨p,h⟩;refine AI 1 Z<|Au ?_
 cases h
 refine Aj Z ⟨p.ext,Z⟩
def Jq(a:List Qq4):Option ((List Qq4)):=
 some a
def Fi(a0:(List AaE)):(List Qq4)×Int->Option (((List Qq4)×Int)⊕((List Qq4))):=fun⟨b,a⟩=>
 if a<(a0.length:Int)then Qq8 (Lb a0 a) (fun c=>Bb (Go.E.Gx 24 (b.length+([c.1]).length)) (Bb (BH (a+1)) (some (Sum.inl ((b++[c.1]),(a+1))))))else Qzq Sum.inr (Jq b)
def Of(a0:(List AaE))(s:(List Qq4)×Int):Option ((List Qq4)):=Go.L.run (Fi a0) s
def KM(a0:(List AaE)):Option ((List Qq4)):=
 (Of a0) (([]:List Qq4),0)
theorem Og(hU:Jm H){a0:(List AaE)}{j:Value}(x:AL AaK H j a0){r:(List Qq4)}(h:KM a0=some r):
  Qqv 18 [.agg #[j]] w (fun v w'=>∃u0,v=u0/\Cv 38 (.vec (.int .i64)) H w w' u0 r):=by
 refine AG 25 [(0,.agg #[j])] func18 Z fun hL=>Aq<|Cj (t:=25) Z Z hL fun w1 b1 ay a4 _=>A1 1 Z<|B1 1 Z ?_;obtain⟨ag,a5,az⟩:=CF (.vec (.int .i64)) H 38 ay;refine Al<|Bm ((List Qq4)×Value×Qq5) (fun⟨p,o,f⟩=>[(3,o)]) (fun⟨p,o,f⟩ wr=>DE w [.row o 38 1 (p).length f,.box b1 [j] 25] wr fun Oz=>A5 (.vec (.int .i64)) (gz H w wr Oz) p f/\Jq p=some r) ?_ ?_
 ·refine Aq<|Ag (Af Z Aas Z Ho.e)<|Ag (Ae 1 Z ag Z)<|Ag (AT x)<|A1 1 Z<|A8 ?_;obtain⟨y,h⟩:=Bc h;refine Bz ((List Qq4)×Int×Value×Qq5×Nat) (fun⟨c,a,e,b,n⟩=>[(1,(Aac b1)),(3,e),(9,No (a0.length:Int)),(10,No a)]) (fun⟨c,a,e,b,n⟩ wr=>DE w [.row e 38 1 (c).length b,.box b1 [j] 25] wr fun Oz=>A5 (.vec (.int .i64)) (gz H w wr Oz) c b/\FW (Fi a0) n (c,a)=some r) (fun⟨c,a,e,b,n⟩=>n) (([]:List Qq4),0,Aaa,[],y) Z ⟨ag,az,h⟩ ?_;rintro⟨c,a,e,b,nn47⟩ a6 ⟨k,g,h⟩;obtain⟨y,a9,rfl,h,z⟩:=Ba h;refine AI 1 Z<|AM<|AS h ?_ ?_<;>intro ai h
  ·refine A4<|A2<|AM<|A8<|AI 2 Z<|Aq<|Ag (Ax 1 Z HQ.e k Z)<|Ar 1 Z<|Av h fun aa aj h=>Bv k (Pw (a0:=a0) _ _ (Ao k) (hU.mono  Ai) (x.mono  Ai) aj) ?_;rintro _ ba ⟨a2,rfl,ab⟩ ak al ad;have d:=ab.Dj hH k ak;refine Ar 3 Z<|AZ BB.e Z al fun bb bc am s _=>Ar 1 Z<|A7 0 Z am Z fun bd an u=>Al<|Az<|Ar 2 Z ?_;have d:=d.mono (Ac (s.trans u));refine BV [aa.1] (r:=(.vec (.int .i64))) (fun _=>WB _ d.one _) an (.c1 ⟨_,Z,d⟩ .nil) fun be bf a7 ao ae ap=>A3 h fun aq h=>?_;have g:=g.mono (Ac (ad.trans (s.trans (u.trans ae))));refine BL (r:=(.vec (.int .i64))) 1 c [aa.1] Z Aa0 ao Z g ap aq fun a1 bg ar au a3 q=>Ar 1 Z<|AP<|A9<|A2<|Az<|A3 h fun av h=>Ag (AA av)<|Ar 1 Z<|AP ?_;have aw:=au.AR (i:=0) Z
   have h:=BW.again h z;have q:=q.mono (Ac (Ah (i:=0) Z));refine AN (_,_,_,_,_) ⟨aw,q,h⟩
  refine Bq<|AK<|AF ?_;have h:=BW.out h z;refine Bj<|AH (_,_,_) ⟨k,g,h⟩
 rintro⟨p,o,f⟩ a8 ⟨ac,af,h⟩;refine AI 2 Z<|Au ?_
 cases h
 refine Aj Z ⟨ac.ext,_,Z,(ac.Hn hH (i:=0) Z af)⟩
end
end Go.Proofs.YtnmkjjgmnbmmnaaGreatDoor
end
noncomputable section
namespace Go
abbrev AaF:=((List AaE))×(List Qq4)×Aae×Int
end Go
namespace Go.Proofs.YtnmkjjgmnbmmnaaGreatDoor
open Go Go.E Go.RowKit Go.L
set_option maxHeartbeats 1000000
set_option maxRecDepth 10000
open _root_.Go.Proofs.Tryz
def D9(a0:AaF):Option UInt8:=
 if a0.2.2.2=(a0.2.2.1.length:Int)then none else Bb (0<=a0.2.2.2/\a0.2.2.2<(a0.2.2.1.length:Int)) (some (a0.2.2.1.getD a0.2.2.2.toNat Qq1))
theorem Jt{f w:World}{H:PH}(hH:Le H (hp f)){O:List BN}{a0:AaF}{ba0:Nat}{va0_0 va0_1 va0_2:Value}(hL:AW f (Ha [.box ba0 [va0_0,va0_1,va0_2,No a0.2.2.2] 60] O) w)(_ha0_0:AL AaK (gz H f w (Ha [.box ba0 [va0_0,va0_1,va0_2,No a0.2.2.2] 60] O)) va0_0 (a0.1))(_ha0_1:AL (.vec (.int .i64)) (gz H f w (Ha [.box ba0 [va0_0,va0_1,va0_2,No a0.2.2.2] 60] O)) va0_1 (a0.2.1))(c:AL .byte (gz H f w (Ha [.box ba0 [va0_0,va0_1,va0_2,No a0.2.2.2] 60] O)) va0_2 (a0.2.2.1)){r:UInt8}(h:D9 a0=some r):
  Ok prog 57 [Aac ba0] w (fun v w'=>v=.int .u8 (r.toNat:Int)/\AW f (Ha [.box ba0 [va0_0,va0_1,va0_2,No a0.2.2.2] 60] O) w'/\Le (fz w (Ha [.box ba0 [va0_0,va0_1,va0_2,No a0.2.2.2] 60] O)) (fz w' (Ha [.box ba0 [va0_0,va0_1,va0_2,No a0.2.2.2] 60] O))):=by
 refine BC (n:=28) [(0,(Aac ba0))] func57 Z Z Z Z ?_;have hT:=Le.refl (fz w (Ha [.box ba0 [va0_0,va0_1,va0_2,No a0.2.2.2] 60] O));have b:=hL.rG H;refine AI 1 Z<|AM<|CI (Qqz 0 10 (.tail 10)) mixed V (fun w2 m=>?_);have d:=hL.call m;have g:=Bd hL m;refine BJ 1 Z<|B9 Z (AV Z) Z<|B9 Z (Af Z Aa1 Z B4.e) Z<|B9 Z (Ae 0 Z d Z) Z<|BJ 1 Z<|B9 Z (AV Z) Z<|B9 Z (Af Z Aa1 Z CC.e) Z<|B9 Z (Ae 0 Z d Z) Z ?_;have b:=b.trans (Ac g);refine B9 Z (AT (c.mono b)) Z<|BJ 1 Z<|B8 (fun w4 o=>?_);have p:=d.call o;have i:=Bd d o;refine Al<|AS h ?_ ?_<;>intro x h
 ·cases h
 refine A4<|A2<|CI (Qqz 0 11 (.tail 11)) mixed V (fun w9 s=>?_);have a:=p.call s;have e:=Bd p s;refine BJ 1 Z<|B9 Z (AV Z) Z<|B9 Z (Af Z Aa1 Z CC.e) Z<|B9 Z (Ae 0 Z a Z) Z<|BJ 1 Z<|B9 Z (AV Z) Z<|B9 Z (Af Z Aa1 Z B4.e) Z<|B9 Z (Ae 0 Z a Z) Z<|A3 h fun j h=>?_;have b:=b.trans (Ac (i.trans e));refine Fl Z Z Z Aag (c.mono b) a0.2.2.2.toNat (CT j) (AD j) Z ?_;rintro y _ rfl t;refine B9 Z (AX t (Ao a)) Z<|BJ 1 Z<|B8 (fun z k=>?_);have u:=a.call k;have l:=Bd a k;refine Al<|Au ?_
 cases h
 refine Aj Z ?_;have hT:=hT.trans (g.trans (i.trans (e.trans l)));exact⟨Z,u,hT⟩
def CG(a0:AaF)(a1:Aae):Int×Int->Option (Qq6⊕(AaF)):=fun⟨b,a⟩=>
 if a<(a1.length:Int)then Bb (0<=a/\a<(a1.length:Int)) (Qq8 (D9 (a0.1,a0.2.1,a0.2.2.1,b)) (fun c=>if(c.toNat:Int)=((a1.getD a.toNat Qq1).toNat:Int)then Bb (BH (b+1)) (Bb (BH (a+1)) (some (Sum.inl ((b+1),(a+1)))))else none))else Qzq Sum.inr (some ((a0.1,a0.2.1,a0.2.2.1,b)))
def HV(a0:AaF)(a1:Aae)(s:Int×Int):Option (AaF):=Go.L.run (CG a0 a1) s
def DA(a0:AaF)(a1:Aae):Option (AaF):=
 (HV a0 a1) (a0.2.2.2,0)
theorem Lx{c w:World}{H:PH}(hH:Le H (hp c)){O:List BN}{a0:AaF}{a1:Aae}{ba0:Nat}{va0_0 va0_1 va0_2 va1:Value}(hL:AW c (Ha [.box ba0 [va0_0,va0_1,va0_2,No a0.2.2.2] 60] O) w)(y:AL AaK (gz H c w (Ha [.box ba0 [va0_0,va0_1,va0_2,No a0.2.2.2] 60] O)) va0_0 (a0.1))(z:AL (.vec (.int .i64)) (gz H c w (Ha [.box ba0 [va0_0,va0_1,va0_2,No a0.2.2.2] 60] O)) va0_1 (a0.2.1))(aa:AL .byte (gz H c w (Ha [.box ba0 [va0_0,va0_1,va0_2,No a0.2.2.2] 60] O)) va0_2 (a0.2.2.1))(ab:AL .byte (gz H c w (Ha [.box ba0 [va0_0,va0_1,va0_2,No a0.2.2.2] 60] O)) va1 a1){r:AaF}(h:DA a0 a1=some r):
  Ok prog 50 [Aac ba0,va1] w (fun v w'=>∃(o:Value) (p:Value) (q:Value),v=.tuple #[]/\AW c (Ha [.box ba0 [o,p,q,No r.2.2.2] 60] O) w'/\Le (fz w (Ha [.box ba0 [va0_0,va0_1,va0_2,No a0.2.2.2] 60] O)) (fz w' (Ha [.box ba0 [o,p,q,No r.2.2.2] 60] O))/\AL AaK (gz H c w' (Ha [.box ba0 [o,p,q,No r.2.2.2] 60] O)) o (r.1)/\AL (.vec (.int .i64)) (gz H c w' (Ha [.box ba0 [o,p,q,No r.2.2.2] 60] O)) p (r.2.1)/\AL .byte (gz H c w' (Ha [.box ba0 [o,p,q,No r.2.2.2] 60] O)) q (r.2.2.1)):=by
 refine BC (n:=29) [(0,(Aac ba0)),(1,va1)] func50 Z Z Z Z ?_;have hT:=Le.refl (fz w (Ha [.box ba0 [va0_0,va0_1,va0_2,No a0.2.2.2] 60] O));have j:=hL.rG H;refine B1 1 Z<|Ag (AT (ab.mono j))<|A1 1 Z<|A8 ?_;obtain⟨s,h⟩:=Bc h;refine Bz (Int×Int×Nat) (fun⟨d,b,n⟩=>[(0,(Aac ba0)),(6,va1),(7,No (a1.length:Int)),(8,No b)]) (fun⟨d,b,n⟩ wr=>DE c (Ha [.box ba0 [va0_0,va0_1,va0_2,No d] 60] O) wr fun Oz=>AL .byte (gz H c wr Oz) va1 a1/\AL AaK (gz H c wr Oz) va0_0 (a0.1)/\AL (.vec (.int .i64)) (gz H c wr Oz) va0_1 (a0.2.1)/\AL .byte (gz H c wr Oz) va0_2 (a0.2.2.1)/\Le (fz w (Ha [.box ba0 [va0_0,va0_1,va0_2,No a0.2.2.2] 60] O)) (fz wr Oz)/\FW (CG a0 a1) n (d,b)=some r) (fun⟨d,b,n⟩=>n) (a0.2.2.2,0,s) Z ⟨hL,(ab.mono j),(y.mono j),(z.mono j),(aa.mono j),hT,h⟩ ?_;rintro⟨d,b,nn18⟩ aj ⟨i,k,e,f,g,hT,h⟩;obtain⟨s,ak,rfl,h,t⟩:=Ba h;have a:=i.rG H
 refine AI 1 Z<|AM<|AS h ?_ ?_<;>intro ac h
 ·refine A4<|A2<|AM<|A8<|Aq<|A3 h fun u h=>Bf (k.mono a) b.toNat (CT u) (AD u) ?_;rintro al _ rfl ad;refine Ag (AX ad (Ao i))<|A1 1 Z<|AM<|B1 1 Z<|Av h fun am ae h=>BO (Jt (a0:=(a0.1,a0.2.1,a0.2.2.1,d)) (O:=(Ha [] O)) hH i (e.mono a) (f.mono a) (g.mono a) ae) ?_;rintro _ an ⟨rfl,x,l⟩;refine A1 2 Z<|DP h ?_ ?_<;>intro af h
  ·cases h
  refine A4<|A2<|Az<|Ar 1 Z<|Ag (AV Z)<|Ag (Af Z Aa1 Z B4.e)<|Ag (Ae 0 Z x Z)<|A3 h fun ag h=>Ag (AA ag)<|Ag (AV Z)<|Ag (Af Z Aa1 Z B4.e)<|AY 0 Z Z Z x Z Z fun ao ah m=>AP<|A9<|A2<|Az<|A3 h fun ai h=>Ag (AA ai)<|Ar 1 Z<|AP ?_;have h:=BW.again h t;have a:=a.trans (Ac (l.trans m));have hT:=hT.trans (l.trans m);refine AN (_,_,_) ⟨ah,(k.mono a),(e.mono a),(f.mono a),(g.mono a),hT,h⟩
 refine Bq<|AK<|AF ?_;have h:=BW.out h t;refine Bj ?_
 cases h
 refine Et ⟨va0_0,va0_1,va0_2,Z,i,hT,(e.mono a),(f.mono a),(g.mono a)⟩
def C3(a0:AaF)(a1:Int):Option (Aae×AaF):=
 Bb (BH ((a0.2.2.1.length:Int) - a0.2.2.2)) (if((a0.2.2.1.length:Int) - a0.2.2.2)<a1 then none else Bb (BH (a0.2.2.2+a1)) (Bb (0<=a0.2.2.2/\a0.2.2.2<=(a0.2.2.2+a1)/\(a0.2.2.2+a1)<=(a0.2.2.1.length:Int)) (Bb (BH (a0.2.2.2+a1)) (some (((a0.2.2.1.drop a0.2.2.2.toNat).take ((a0.2.2.2+a1).toNat - a0.2.2.2.toNat)),(a0.1,a0.2.1,a0.2.2.1,(a0.2.2.2+a1)))))))
theorem GF{c w:World}{H:PH}(hH:Le H (hp c)){O:List BN}{a0:AaF}{a1:Int}{ba0:Nat}{va0_0 va0_1 va0_2:Value}(hL:AW c (Ha [.box ba0 [va0_0,va0_1,va0_2,No a0.2.2.2] 60] O) w)(x:AL AaK (gz H c w (Ha [.box ba0 [va0_0,va0_1,va0_2,No a0.2.2.2] 60] O)) va0_0 (a0.1))(y:AL (.vec (.int .i64)) (gz H c w (Ha [.box ba0 [va0_0,va0_1,va0_2,No a0.2.2.2] 60] O)) va0_1 (a0.2.1))(d:AL .byte (gz H c w (Ha [.box ba0 [va0_0,va0_1,va0_2,No a0.2.2.2] 60] O)) va0_2 (a0.2.2.1)){r:Aae×AaF}(h:C3 a0 a1=some r):
  Ok prog 55 [Aac ba0,No a1] w (fun v w'=>∃(u0:Value) (g:Value) (i:Value) (j:Value),v=u0/\AW c (Ha [.box ba0 [g,i,j,No r.2.2.2.2] 60] O) w'/\Le (fz w (Ha [.box ba0 [va0_0,va0_1,va0_2,No a0.2.2.2] 60] O)) (fz w' (Ha [.box ba0 [g,i,j,No r.2.2.2.2] 60] O))/\AL .byte (gz H c w' (Ha [.box ba0 [g,i,j,No r.2.2.2.2] 60] O)) u0 (r.1)/\AL AaK (gz H c w' (Ha [.box ba0 [g,i,j,No r.2.2.2.2] 60] O)) g (r.2.1)/\AL (.vec (.int .i64)) (gz H c w' (Ha [.box ba0 [g,i,j,No r.2.2.2.2] 60] O)) i (r.2.2.1)/\AL .byte (gz H c w' (Ha [.box ba0 [g,i,j,No r.2.2.2.2] 60] O)) j (r.2.2.2.1)):=by
 refine BC (n:=48) [(0,(Aac ba0)),(1,No a1)] func55 Z Z Z Z ?_;have hT:=Le.refl (fz w (Ha [.box ba0 [va0_0,va0_1,va0_2,No a0.2.2.2] 60] O));have a:=hL.rG H;refine AI 1 Z<|AM<|CI (Qqz 0 12 (.tail 12)) mixed V (fun w2 z=>?_);have l:=hL.call z;have o:=Bd hL z;refine BJ 2 Z<|B9 Z (AV Z) Z<|B9 Z (Af Z Aa1 Z CC.e) Z<|B9 Z (Ae 0 Z l Z) Z ?_;have a:=a.trans (Ac o);refine B9 Z (AT (d.mono a)) Z<|BJ 1 Z<|B9 Z (AV Z) Z<|B9 Z (Af Z Aa1 Z B4.e) Z<|B9 Z (Ae 0 Z l Z) Z<|A3 h fun ah h=>B9 Z (AA ah) Z<|BJ 1 Z<|B8 (fun w5 aa=>?_);have ab:=l.call aa;have p:=Bd l aa;refine Al<|AS h ?_ ?_<;>intro ai h
 ·cases h
 refine A4<|A2<|CI (Qqz 0 16 (.tail 16)) mixed V (fun ak s=>?_);have b:=ab.call s;have m:=Bd ab s;refine BJ 1 Z<|B9 Z (AV Z) Z<|B9 Z (Af Z Aa1 Z CC.e) Z<|B9 Z (Ae 0 Z b Z) Z<|BJ 1 Z<|B9 Z (AV Z) Z<|B9 Z (Af Z Aa1 Z B4.e) Z<|B9 Z (Ae 0 Z b Z) Z<|BJ 1 Z<|B9 Z (AV Z) Z<|B9 Z (Af Z Aa1 Z B4.e) Z<|B9 Z (Ae 0 Z b Z) Z<|BJ 1 Z<|A3 h fun ac h=>B9 Z (AA ac) Z<|A3 h fun ad h=>?_;have a:=a.trans (Ac (p.trans m));refine UG Z Z Aag (d.mono a) ad Z fun aj k=>BJ 1 Z<|B8 (fun al t=>?_);have u:=b.call t;have e:=Bd b t;refine Al<|B1 1 Z<|Ag (AV Z)<|Ag (Af Z Aa1 Z B4.e)<|Ag (Ae 0 Z u Z)<|Ar 1 Z<|A3 h fun ae h=>?_
 refine Ag (AA ae)<|Ag (AV Z)<|Ag (Af Z Aa1 Z B4.e)<|AY 0 Z Z Z u Z Z fun am af f=>Al<|AI 2 Z<|Au ?_
 cases h
 refine Aj Z ?_;have hT:=hT.trans (o.trans (p.trans (m.trans (e.trans f))));have k:=k.mono (Ac (e.trans f));have a:=a.trans (Ac (e.trans f));exact⟨aj,va0_0,va0_1,va0_2,Z,af,hT,k,(x.mono a),(y.mono a),(d.mono a)⟩
def Er(a1:AaE)(b:List AaE)(c:List Qq4)(d:Aae)(e a:Int):Option (Int×AaF):=
 if((decide (a<a1.2.2.2.2.2.1))||(decide (a1.2.2.2.2.2.2.1<a)))then none else some (a,(b,c,d,e))
def Ca(a1:AaE)(b:Aae×AaF):Int×Int->Option (Qq6⊕(Int×AaF)):=fun⟨c,a⟩=>
 if a<(b.1.length:Int)then Bb (0<=a/\a<(b.1.length:Int)) (if a1.2.2.2.2.1 then Bb (BH (c * 256)) (Bb ((0<=(c * 256)/\(c * 256)<2 ^ 63)/\(0<=((b.1.getD a.toNat Qq1).toNat:Int)/\((b.1.getD a.toNat Qq1).toNat:Int)<2 ^ 63)) (Bb (BH (a+1)) (some (Sum.inl ((((c * 256).toNat ||| ((b.1.getD a.toNat Qq1).toNat:Int).toNat:Nat):Int),(a+1))))))else none)else Qzq Sum.inr ((Er a1) b.2.1 b.2.2.1 b.2.2.2.1 b.2.2.2.2 c)
def FZ(a1:AaE)(a:Aae×AaF)(s:Int×Int):Option (Int×AaF):=Go.L.run (Ca a1 a) s
def BE(a0:AaF)(a1:AaE):Option (Int×AaF):=
 if a1.2.1=3 then none else Qq8 (C3 a0 a1.2.2.2.1) (fun a=>(FZ a1 a) (0,0))
theorem Ga{b w:World}{H:PH}(hH:Le H (hp b)){O:List BN}{a0:AaF}{a1:AaE}{ba0:Nat}{va0_0 va0_1 va0_2 va1_2 va1_10 va1_11:Value}(hL:AW b (Ha [.box ba0 [va0_0,va0_1,va0_2,No a0.2.2.2] 60] O) w)(bd:AL AaK (gz H b w (Ha [.box ba0 [va0_0,va0_1,va0_2,No a0.2.2.2] 60] O)) va0_0 (a0.1))(be:AL (.vec (.int .i64)) (gz H b w (Ha [.box ba0 [va0_0,va0_1,va0_2,No a0.2.2.2] 60] O)) va0_1 (a0.2.1))(bf:AL .byte (gz H b w (Ha [.box ba0 [va0_0,va0_1,va0_2,No a0.2.2.2] 60] O)) va0_2 (a0.2.2.1))(bg:AL .byte (gz H b w (Ha [.box ba0 [va0_0,va0_1,va0_2,No a0.2.2.2] 60] O)) va1_2 (a1.2.2.1))(az:AL .st (gz H b w (Ha [.box ba0 [va0_0,va0_1,va0_2,No a0.2.2.2] 60] O)) va1_10 (a1.2.2.2.2.2.2.2.2.2.2.1))(a2:AL (.int .i64) (gz H b w (Ha [.box ba0 [va0_0,va0_1,va0_2,No a0.2.2.2] 60] O)) va1_11 (a1.2.2.2.2.2.2.2.2.2.2.2)){r:Int×AaF}(h:BE a0 a1=some r):
  Ok prog 53 [Aac ba0,.agg #[Aad a1.1,No a1.2.1,va1_2,No a1.2.2.2.1,.bool a1.2.2.2.2.1,No a1.2.2.2.2.2.1,No a1.2.2.2.2.2.2.1,No a1.2.2.2.2.2.2.2.1,No a1.2.2.2.2.2.2.2.2.1,No a1.2.2.2.2.2.2.2.2.2.1,va1_10,va1_11]] w (fun v w'=>∃(u1:Value) (u2:Value) (u3:Value),v=No r.1/\AW b (Ha [.box ba0 [u1,u2,u3,No r.2.2.2.2] 60] O) w'/\Le (fz w (Ha [.box ba0 [va0_0,va0_1,va0_2,No a0.2.2.2] 60] O)) (fz w' (Ha [.box ba0 [u1,u2,u3,No r.2.2.2.2] 60] O))/\AL AaK (gz H b w' (Ha [.box ba0 [u1,u2,u3,No r.2.2.2.2] 60] O)) u1 (r.2.1)/\AL (.vec (.int .i64)) (gz H b w' (Ha [.box ba0 [u1,u2,u3,No r.2.2.2.2] 60] O)) u2 (r.2.2.1)/\AL .byte (gz H b w' (Ha [.box ba0 [u1,u2,u3,No r.2.2.2.2] 60] O)) u3 (r.2.2.2.1)):=by
 refine BC (n:=57) [(0,(Aac ba0)),(1,.agg #[Aad a1.1,No a1.2.1,va1_2,No a1.2.2.2.1,.bool a1.2.2.2.2.1,No a1.2.2.2.2.2.1,No a1.2.2.2.2.2.2.1,No a1.2.2.2.2.2.2.2.1,No a1.2.2.2.2.2.2.2.2.1,No a1.2.2.2.2.2.2.2.2.2.1,va1_10,va1_11])] func53 Z Z Z Z ?_;have hT:=Le.refl (fz w (Ha [.box ba0 [va0_0,va0_1,va0_2,No a0.2.2.2] 60] O));have k:=hL.rG H;refine Aq<|Cj (t:=50) Z Z hL fun w2 b2 ab al _=>A1 1 Z<|AM<|Aq<|Ag (Af Z Aak Z B4.e)<|Ag (Ae 0 Z ab Z)<|A1 1 Z<|AS h ?_ ?_<;>intro bu h
 ·cases h
 refine A4<|A2<|B1 1 Z<|Ag (AV Z)<|Ag (Af Z Aa1 Z B4.e)<|Ag (Ae 1 Z ab Z)<|A1 1 Z<|AI 1 Z ?_
 refine Bm ((List AaE)×(List Qq4)×Aae×Int×Int×Value×Value×Value) (fun⟨am,an,ao,ap,j,u,x,y⟩=>[(3,(Aac b2)),(6,No j)]) (fun⟨am,an,ao,ap,j,u,x,y⟩ wr=>DE b (Ha [.box b2 [Aad a1.1,No a1.2.1,va1_2,No a1.2.2.2.1,.bool a1.2.2.2.2.1,No a1.2.2.2.2.2.1,No a1.2.2.2.2.2.2.1,No a1.2.2.2.2.2.2.2.1,No a1.2.2.2.2.2.2.2.2.1,No a1.2.2.2.2.2.2.2.2.2.1,va1_10,va1_11] 50,.box ba0 [u,x,y,No ap] 60] O) wr fun Oz=>AL .byte (gz H b wr Oz) va1_2 (a1.2.2.1)/\AL .st (gz H b wr Oz) va1_10 (a1.2.2.2.2.2.2.2.2.2.2.1)/\AL (.int .i64) (gz H b wr Oz) va1_11 (a1.2.2.2.2.2.2.2.2.2.2.2)/\AL AaK (gz H b wr Oz) u am/\AL (.vec (.int .i64)) (gz H b wr Oz) x an/\AL .byte (gz H b wr Oz) y ao/\Le (fz w (Ha [.box ba0 [va0_0,va0_1,va0_2,No a0.2.2.2] 60] O)) (fz wr Oz)/\(Er a1) am an ao ap j=some r) ?_ ?_
 ·refine B1 1 Z<|Ag (Af Z Aak Z B4.e)<|Ag (Ae 0 Z ab Z) ?_;have a3:AW b (Ha [.box ba0 [va0_0,va0_1,va0_2,No a0.2.2.2] 60,.box b2 [Aad a1.1,No a1.2.1,va1_2,No a1.2.2.2.1,.bool a1.2.2.2.2.1,No a1.2.2.2.2.2.1,No a1.2.2.2.2.2.2.1,No a1.2.2.2.2.2.2.2.1,No a1.2.2.2.2.2.2.2.2.1,No a1.2.2.2.2.2.2.2.2.2.1,va1_10,va1_11] 50] O) w2:=ab.Bn [1] Z;have aq:=AJ [1] ab a3 Z;refine Av h fun f bk h=>?_;have k:=k.trans (Ac (al.trans aq));refine BO (GF (a0:=a0) (a1:=a1.2.2.2.1) (O:=(Ha [.box b2 [Aad a1.1,No a1.2.1,va1_2,No a1.2.2.2.1,.bool a1.2.2.2.2.1,No a1.2.2.2.2.2.1,No a1.2.2.2.2.2.2.1,No a1.2.2.2.2.2.2.2.1,No a1.2.2.2.2.2.2.2.2.1,No a1.2.2.2.2.2.2.2.2.2.1,va1_10,va1_11] 50] O)) hH a3 (bd.mono k) (be.mono k) (bf.mono k) bk) ?_;rintro ar b1 ⟨_,o,p,q,rfl,bl,au,ac,a4,a5,a6⟩;refine Ag (AT ac)<|A1 1 Z<|A8 ?_;obtain⟨a7,h⟩:=Bc h;have hT:=hT.trans (al.trans (aq.trans au));have k:=k.trans (Ac au)
  refine Bz (Int×Int×Nat) (fun⟨g,d,n⟩=>[(3,(Aac b2)),(6,No g),(22,ar),(23,No (f.1.length:Int)),(24,No d)]) (fun⟨g,d,n⟩ wr=>DE b (Ha [.box ba0 [o,p,q,No f.2.2.2.2] 60,.box b2 [Aad a1.1,No a1.2.1,va1_2,No a1.2.2.2.1,.bool a1.2.2.2.2.1,No a1.2.2.2.2.2.1,No a1.2.2.2.2.2.2.1,No a1.2.2.2.2.2.2.2.1,No a1.2.2.2.2.2.2.2.2.1,No a1.2.2.2.2.2.2.2.2.2.1,va1_10,va1_11] 50] O) wr fun Oz=>AL .byte (gz H b wr Oz) ar (f.1)/\AL AaK (gz H b wr Oz) o (f.2.1)/\AL (.vec (.int .i64)) (gz H b wr Oz) p (f.2.2.1)/\AL .byte (gz H b wr Oz) q (f.2.2.2.1)/\AL .byte (gz H b wr Oz) va1_2 (a1.2.2.1)/\AL .st (gz H b wr Oz) va1_10 (a1.2.2.2.2.2.2.2.2.2.2.1)/\AL (.int .i64) (gz H b wr Oz) va1_11 (a1.2.2.2.2.2.2.2.2.2.2.2)/\Le (fz w (Ha [.box ba0 [va0_0,va0_1,va0_2,No a0.2.2.2] 60] O)) (fz wr Oz)/\FW (Ca a1 f) n (g,d)=some r) (fun⟨g,d,n⟩=>n) (0,0,a7) Z ⟨bl,ac,a4,a5,a6,(bg.mono k),(az.mono k),(a2.mono k),hT,h⟩ ?_
  rintro⟨g,d,nn63⟩ bm ⟨l,ad,ae,af,ag,ah,ai,aj,hT,h⟩;obtain⟨a7,b3,rfl,h,a8⟩:=Ba h;have a:=l.rG H;refine AI 1 Z<|AM<|AS h ?_ ?_<;>intro bn h
  ·refine A4<|A2<|AM<|A8<|B1 1 Z<|A3 h fun a9 h=>Bf (ad.mono a) d.toNat (CT a9) (AD a9) ?_;rintro b4 _ rfl bo;refine Ag (AX bo (Ao l))<|A1 2 Z<|Aq<|Ag (Af Z Aak Z Fv.e)<|Ag (Ae 1 Z l Z)<|Al<|Bi h ?_ ?_<;>intro bp h
   ·refine Az<|Ar 1 Z<|A3 h fun ba h=>Ag (Sb (c:=8) (m:=256) Qqb (wrap64 ba.1 ba.2))<|Ar 1 Z<|Ag (EA (G8 _))<|A3 h fun bq h=>Ag (OH Z bq)<|Ar 1 Z<|AP<|A9<|A2<|Az<|A3 h fun br h=>Ag (AA br)<|Ar 1 Z<|AP ?_;have h:=BW.again h a8;refine AN (_,_,_) ⟨l,(ad.mono a),(ae.mono a),(af.mono a),(ag.mono a),(ah.mono a),(ai.mono a),(aj.mono a),hT,h⟩
   cases h
  refine Bq<|AK<|AF ?_;have h:=BW.out h a8;refine Bj ?_;have bb:AW b (Ha [.box b2 [Aad a1.1,No a1.2.1,va1_2,No a1.2.2.2.1,.bool a1.2.2.2.2.1,No a1.2.2.2.2.2.1,No a1.2.2.2.2.2.2.1,No a1.2.2.2.2.2.2.2.1,No a1.2.2.2.2.2.2.2.2.1,No a1.2.2.2.2.2.2.2.2.2.1,va1_10,va1_11] 50,.box ba0 [o,p,q,No f.2.2.2.2] 60] O) bm:=l.Bn [1] Z;have av:=AJ [1] l bb Z;have a:=a.trans (Ac av);have hT:=hT.trans av;refine AH (f.2.1,f.2.2.1,f.2.2.2.1,f.2.2.2.2,g,o,p,q) ⟨bb,(ah.mono a),(ai.mono a),(aj.mono a),(ae.mono a),(af.mono a),(ag.mono a),hT,h⟩
 have hT:=hT.trans al;rintro⟨am,an,ao,ap,j,u,x,y⟩ b0 ⟨aa,bv,bw,bx,bh,bi,bj,hT,h⟩;refine AM ?_;have z:=aa.rG H;refine B1 1 Z<|Ag (Af Z Aak Z B4.e)<|Ag (Ae 0 Z aa Z)<|Ar 2 Z<|BS 5 53 (.bool ((decide (j<a1.2.2.2.2.2.1))||(decide (a1.2.2.2.2.2.2.1<j)))) (fun bc=>?_) ?_
 ·refine Bk (s:=48) Z (fun e=>?_) (fun e=>?_)
  ·iterate 4 refine Ab e ?_
   refine Ag (Ak e Z)<|bc.to 4 (GS e) Z Z
  refine Aa e<|Ag (Ad Z)<|Aa e<|Ag (Af Z Aak Z B4.e)<|Aa e<|Ag (Ae 0 Z aa Z)<|Aa e<|Ag (Ad Z)<|Ag (Am e Z)<|bc.to 4 (GU e) Z Z
 refine Al<|Bi h ?_ ?_<;>intro bs h
 ·cases h
 refine A4<|A2<|AI 2 Z<|Au ?_
 cases h
 refine Aj Z ?_;have bt:=aa.AR (i:=0) Z;have z:=z.trans (Ac (Ah (i:=0) Z));have hT:=hT.trans (Ah (i:=0) Z);exact⟨u,x,y,Z,bt,hT,(bh.mono z),(bi.mono z),(bj.mono z)⟩
def EV(a0:Int)(a1_0:AaF)(a2:Int):Option Bool:=
 Bb (0<=a0/\a0<(a1_0.2.1.length:Int)) (Qq8 (Cf (a1_0.2.1.getD a0.toNat Qq1) a2) (fun a=>some a))
theorem Ly{b w:World}{H:PH}(hH:Le H (hp b)){O:List BN}{a0:Int}{a1_0:AaF}{a2:Int}{ba1 ba1_0:Nat}{va1_0_0 va1_0_1 va1_0_2:Value}{ba2:Nat}(hL:AW b (Ha [.box ba1 [Aac ba1_0] 56,.box ba1_0 [va1_0_0,va1_0_1,va1_0_2,No a1_0.2.2.2] 60,.box ba2 [No a2] 3] O) w)(_ha1_0_0:AL AaK (gz H b w (Ha [.box ba1 [Aac ba1_0] 56,.box ba1_0 [va1_0_0,va1_0_1,va1_0_2,No a1_0.2.2.2] 60,.box ba2 [No a2] 3] O)) va1_0_0 (a1_0.1))(c:AL (.vec (.int .i64)) (gz H b w (Ha [.box ba1 [Aac ba1_0] 56,.box ba1_0 [va1_0_0,va1_0_1,va1_0_2,No a1_0.2.2.2] 60,.box ba2 [No a2] 3] O)) va1_0_1 (a1_0.2.1))(_ha1_0_2:AL .byte (gz H b w (Ha [.box ba1 [Aac ba1_0] 56,.box ba1_0 [va1_0_0,va1_0_1,va1_0_2,No a1_0.2.2.2] 60,.box ba2 [No a2] 3] O)) va1_0_2 (a1_0.2.2.1)){r:Bool}(h:EV a0 a1_0 a2=some r):
  Ok prog 59 [No a0,Aac ba1,Aac ba2] w (fun v w'=>v=.bool r/\AW b (Ha [.box ba1 [Aac ba1_0] 56,.box ba1_0 [va1_0_0,va1_0_1,va1_0_2,No a1_0.2.2.2] 60,.box ba2 [No a2] 3] O) w'/\Le (fz w (Ha [.box ba1 [Aac ba1_0] 56,.box ba1_0 [va1_0_0,va1_0_1,va1_0_2,No a1_0.2.2.2] 60,.box ba2 [No a2] 3] O)) (fz w' (Ha [.box ba1 [Aac ba1_0] 56,.box ba1_0 [va1_0_0,va1_0_1,va1_0_2,No a1_0.2.2.2] 60,.box ba2 [No a2] 3] O))):=by
 refine BC (n:=14) [(0,No a0),(1,(Aac ba1)),(2,(Aac ba2))] func59 Z Z Z Z ?_;have hT:=Le.refl (fz w (Ha [.box ba1 [Aac ba1_0] 56,.box ba1_0 [va1_0_0,va1_0_1,va1_0_2,No a1_0.2.2.2] 60,.box ba2 [No a2] 3] O));have d:=hL.rG H;refine AI 1 Z<|CI (Qqz 0 10 (.tail 10)) mixed V (fun p f=>?_);have a:=hL.call f;have e:=Bd hL f;refine B9 Z (Ae 0 Z a Z) Z<|B9 Z (AV Z) Z<|B9 Z (Af Z Aa1 Z ZB.e) Z<|B9 Z (Ae 1 Z a Z) Z<|BJ 1 Z<|A3 h fun g h=>?_;have d:=d.trans (Ac e);refine Fl Z Z Z Aa0 (c.mono d) a0.toNat (CT g) (AD g) Z ?_;rintro s _ ⟨e4v0,rfl,e4h0⟩ k;refine B9 Z (AX k (Ao a)) Z<|B9 Z (Ae 2 Z a Z) Z<|Av h fun t l h=>IA Z Z Z (fun u m=>Fz _ _ (Le.refl _) ((e4h0.mono (Ao a)).mono m.le) l)<|BJ 1 Z<|B8 (fun x i=>?_);have o:=a.call i;have j:=Bd a i;refine Al<|Au ?_
 cases h
 refine Aj Z ?_;have hT:=hT.trans (e.trans j);exact⟨Z,o,hT⟩
def E1:Option Int:=
 some ((-1))
def Cu(a0:Qq4)(a1_c0_0:AaF)(a1_c1:Int):Int->Option ((Int)⊕(Int)):=fun a=>
 if a<(a0.length:Int)then Bb (0<=a/\a<(a0.length:Int)) (Qq8 (EV (a0.getD a.toNat Qq1) a1_c0_0 a1_c1) (fun b=>if b then Qzq Sum.inr (some a)else Bb (BH (a+1)) (some (Sum.inl (a+1)))))else Qzq Sum.inr E1
def BX(a0:Qq4)(a1_c0_0:AaF)(a1_c1 s:Int):Option Int:=Go.L.run (Cu a0 a1_c0_0 a1_c1) s
def Fp(a0:Qq4)(a1_c0_0:AaF)(a1_c1:Int):Option Int:=
 (BX a0 a1_c0_0 a1_c1) (0:Int)
theorem Ke{c w:World}{H:PH}(hH:Le H (hp c)){O:List BN}{a0:Qq4}{a1_c0_0:AaF}{a1_c1:Int}{va0:Value}{ba1_c0 ba1_c0_0:Nat}{va1_c0_0_0 va1_c0_0_1 va1_c0_0_2:Value}{ba1_c1:Nat}(hL:AW c (Ha [.box ba1_c0 [Aac ba1_c0_0] 56,.box ba1_c0_0 [va1_c0_0_0,va1_c0_0_1,va1_c0_0_2,No a1_c0_0.2.2.2] 60,.box ba1_c1 [No a1_c1] 3] O) w)(q:AL (.int .i64) (gz H c w (Ha [.box ba1_c0 [Aac ba1_c0_0] 56,.box ba1_c0_0 [va1_c0_0_0,va1_c0_0_1,va1_c0_0_2,No a1_c0_0.2.2.2] 60,.box ba1_c1 [No a1_c1] 3] O)) va0 a0)(ha1_c0_0_0:AL AaK (gz H c w (Ha [.box ba1_c0 [Aac ba1_c0_0] 56,.box ba1_c0_0 [va1_c0_0_0,va1_c0_0_1,va1_c0_0_2,No a1_c0_0.2.2.2] 60,.box ba1_c1 [No a1_c1] 3] O)) va1_c0_0_0 (a1_c0_0.1))(ha1_c0_0_1:AL (.vec (.int .i64)) (gz H c w (Ha [.box ba1_c0 [Aac ba1_c0_0] 56,.box ba1_c0_0 [va1_c0_0_0,va1_c0_0_1,va1_c0_0_2,No a1_c0_0.2.2.2] 60,.box ba1_c1 [No a1_c1] 3] O)) va1_c0_0_1 (a1_c0_0.2.1))(ha1_c0_0_2:AL .byte (gz H c w (Ha [.box ba1_c0 [Aac ba1_c0_0] 56,.box ba1_c0_0 [va1_c0_0_0,va1_c0_0_1,va1_c0_0_2,No a1_c0_0.2.2.2] 60,.box ba1_c1 [No a1_c1] 3] O)) va1_c0_0_2 (a1_c0_0.2.2.1)){r:Int}(h:Fp a0 a1_c0_0 a1_c1=some r):
  Ok prog 58 [va0,.func (.func 59) #[] #[Aac ba1_c0,Aac ba1_c1]] w (fun v w'=>v=No r/\AW c (Ha [.box ba1_c0 [Aac ba1_c0_0] 56,.box ba1_c0_0 [va1_c0_0_0,va1_c0_0_1,va1_c0_0_2,No a1_c0_0.2.2.2] 60,.box ba1_c1 [No a1_c1] 3] O) w'/\Le (fz w (Ha [.box ba1_c0 [Aac ba1_c0_0] 56,.box ba1_c0_0 [va1_c0_0_0,va1_c0_0_1,va1_c0_0_2,No a1_c0_0.2.2.2] 60,.box ba1_c1 [No a1_c1] 3] O)) (fz w' (Ha [.box ba1_c0 [Aac ba1_c0_0] 56,.box ba1_c0_0 [va1_c0_0_0,va1_c0_0_1,va1_c0_0_2,No a1_c0_0.2.2.2] 60,.box ba1_c1 [No a1_c1] 3] O))):=by
 refine BC (n:=19) [(0,va0),(1,.func (.func 59) #[] #[Aac ba1_c0,Aac ba1_c1])] func58 Z Z Z Z ?_;have hT:=Le.refl (fz w (Ha [.box ba1_c0 [Aac ba1_c0_0] 56,.box ba1_c0_0 [va1_c0_0_0,va1_c0_0_1,va1_c0_0_2,No a1_c0_0.2.2.2] 60,.box ba1_c1 [No a1_c1] 3] O));have j:=hL.rG H;refine AI 1 Z<|Bm Unit (fun(_:Unit)=>[]) (fun(_:Unit) wr=>DE c (Ha [.box ba1_c0 [Aac ba1_c0_0] 56,.box ba1_c0_0 [va1_c0_0_0,va1_c0_0_1,va1_c0_0_2,No a1_c0_0.2.2.2] 60,.box ba1_c1 [No a1_c1] 3] O) wr fun Oz=>AL AaK (gz H c wr Oz) va1_c0_0_0 (a1_c0_0.1)/\AL (.vec (.int .i64)) (gz H c wr Oz) va1_c0_0_1 (a1_c0_0.2.1)/\AL .byte (gz H c wr Oz) va1_c0_0_2 (a1_c0_0.2.2.1)/\Le (fz w (Ha [.box ba1_c0 [Aac ba1_c0_0] 56,.box ba1_c0_0 [va1_c0_0_0,va1_c0_0_1,va1_c0_0_2,No a1_c0_0.2.2.2] 60,.box ba1_c1 [No a1_c1] 3] O)) (fz wr Oz)/\E1=some r) ?_ ?_
 ·refine B1 1 Z<|Ag (AT (q.mono j))<|A1 1 Z<|A8 ?_;obtain⟨m,h⟩:=Bc h;refine Bz (Int×Nat) (fun⟨b,n⟩=>[(0,va0),(1,.func (.func 59) #[] #[Aac ba1_c0,Aac ba1_c1]),(7,No (a0.length:Int)),(8,No b)]) (fun⟨b,n⟩ wr=>DE c (Ha [.box ba1_c0 [Aac ba1_c0_0] 56,.box ba1_c0_0 [va1_c0_0_0,va1_c0_0_1,va1_c0_0_2,No a1_c0_0.2.2.2] 60,.box ba1_c1 [No a1_c1] 3] O) wr fun Oz=>AL (.int .i64) (gz H c wr Oz) va0 a0/\AL AaK (gz H c wr Oz) va1_c0_0_0 (a1_c0_0.1)/\AL (.vec (.int .i64)) (gz H c wr Oz) va1_c0_0_1 (a1_c0_0.2.1)/\AL .byte (gz H c wr Oz) va1_c0_0_2 (a1_c0_0.2.2.1)/\Le (fz w (Ha [.box ba1_c0 [Aac ba1_c0_0] 56,.box ba1_c0_0 [va1_c0_0_0,va1_c0_0_1,va1_c0_0_2,No a1_c0_0.2.2.2] 60,.box ba1_c1 [No a1_c1] 3] O)) (fz wr Oz)/\FW (Cu a0 a1_c0_0 a1_c1) n b=some r) (fun⟨b,n⟩=>n) (0,m) Z ⟨hL,(q.mono j),(ha1_c0_0_0.mono j),(ha1_c0_0_1.mono j),(ha1_c0_0_2.mono j),hT,h⟩ ?_
  rintro⟨b,nn44⟩ ad ⟨g,k,d,e,f,hT,h⟩;obtain⟨m,af,rfl,h,l⟩:=Ba h;have a:=g.rG H;refine AI 1 Z<|AM<|AS h ?_ ?_<;>intro s h
  ·refine A4<|A2<|AM<|A8<|AI 2 Z<|B1 3 Z<|A3 h fun o h=>Bf (k.mono a) b.toNat (CT o) (AD o) ?_;rintro ag _ rfl t;refine Ag (AX t (Ao g))<|Av h fun ah u h=>BU Z Z (Ly (a0:=(a0.getD b.toNat Qq1)) (a1_0:=a1_c0_0) (a2:=a1_c1) (O:=(Ha [] O)) hH g (d.mono a) (e.mono a) (f.mono a) u) ?_;rintro _ ai ⟨rfl,p,i⟩;refine Al<|Bi h ?_ ?_<;>intro x h
   ·refine AI 2 Z<|Au<|Ay<|AE<|BM ?_;have h:=BW.out h l;refine Ay<|Bp ?_
    cases h
    refine Aj Z ?_;have hT:=hT.trans i;exact⟨Z,p,hT⟩
   refine A4<|A9<|A2<|Az<|A3 h fun y h=>Ag (AA y)<|Ar 1 Z<|AP ?_;have h:=BW.again h l;have a:=a.trans (Ac i);have hT:=hT.trans i;refine AN (_,_) ⟨p,(k.mono a),(d.mono a),(e.mono a),(f.mono a),hT,h⟩
  refine Bq<|AK<|AF ?_;have h:=BW.out h l;refine Bj<|AH () ⟨g,(d.mono a),(e.mono a),(f.mono a),hT,h⟩
 rintro _ ae ⟨z,aa,ab,ac,hT,h⟩;refine AI 1 Z<|Au ?_
 cases h
 refine Aj Z ⟨Z,z,hT⟩
def EI(a b:Int)(c:Aae)(d:List Aae)(e:List Pv)(f:List AaE)(g:List Qq4)(h:Aae)(i:Int):Option (Pv×AaF):=
 some ((Pv.mk a b c d e),(f,g,h,i))
def EJ(a:List Pv)(b:List AaE)(c:List Qq4)(d:Aae)(e:Int):Option (Pv×AaF):=
 Qq8 (Gp a) (fun f=>some (f,(b,c,d,e)))
def Dg(a0:AaF)(a1:Int)(self:AaF->(Int)->Option (Pv×AaF)):(List AaE)×(List Qq4)×Aae×Int×(List Pv)×Int->Option (((List AaE)×(List Qq4)×Aae×Int×(List Pv)×Int)⊕(Pv×AaF)):=fun⟨d,e,f,g,c,b⟩=>
 if 0<b then Qq8 (self (d,e,f,g) ((a0.1.getD a1.toNat Qq1).2.2.2.2.2.2.2.2.2.1)) (fun a=>Bb (Go.E.Gx 88 (c.length+([a.1]).length)) (Bb (BH (b - 1)) (some (Sum.inl (a.2.1,a.2.2.1,a.2.2.2.1,a.2.2.2.2,(c++[a.1]),(b - 1))))))else Qzq Sum.inr (EJ c d e f g)
def C4(a0:AaF)(a1:Int)(self:AaF->(Int)->Option (Pv×AaF))(s:(List AaE)×(List Qq4)×Aae×Int×(List Pv)×Int):Option (Pv×AaF):=Go.L.run (Dg a0 a1 self) s
def EK(a:List AaE)(b:List Qq4)(c:Aae)(d:Int)(e:List Aae)(f:List Pv):Option (Pv×AaF):=
 some ((Pv.mk (4:Int) (0:Int) ([]) e f),(a,b,c,d))
def Cz(a0:AaF)(a1:Int)(self:AaF->(Int)->Option (Pv×AaF)):(List AaE)×(List Qq4)×Aae×Int×(List Aae)×(List Pv)×Int->Option (((List AaE)×(List Qq4)×Aae×Int×(List Aae)×(List Pv)×Int)⊕(Pv×AaF)):=fun⟨e,f,g,h,c,d,a⟩=>
 if a<(((a0.1.getD a1.toNat Qq1).2.2.2.2.2.2.2.2.2.2.2).length:Int)then Bb (0<=a/\a<(((a0.1.getD a1.toNat Qq1).2.2.2.2.2.2.2.2.2.2.2).length:Int)) (Qq8 (self (e,f,g,h) (((a0.1.getD a1.toNat Qq1).2.2.2.2.2.2.2.2.2.2.2).getD a.toNat Qq1)) (fun b=>Bb (0<=a/\a<(((a0.1.getD a1.toNat Qq1).2.2.2.2.2.2.2.2.2.2.1).length:Int)) (if((a0.1.getD a1.toNat Qq1).2.2.2.2.2.2.2.2.2.2.1).getD a.toNat Qq1=([]:Aae)then Bb (BH (a+1)) (some (Sum.inl (b.2.1,b.2.2.1,b.2.2.2.1,b.2.2.2.2,c,d,(a+1))))else Bb (0<=a/\a<(((a0.1.getD a1.toNat Qq1).2.2.2.2.2.2.2.2.2.2.1).length:Int)) (Bb (Go.E.Gx 16 (c.length+([((a0.1.getD a1.toNat Qq1).2.2.2.2.2.2.2.2.2.2.1).getD a.toNat Qq1]).length)) (Bb (Go.E.Gx 88 (d.length+([b.1]).length)) (Bb (BH (a+1)) (some (Sum.inl (b.2.1,b.2.2.1,b.2.2.2.1,b.2.2.2.2,(c++[((a0.1.getD a1.toNat Qq1).2.2.2.2.2.2.2.2.2.2.1).getD a.toNat Qq1]),(d++[b.1]),(a+1))))))))))else Qzq Sum.inr (EK e f g h c d)
def Bs(a0:AaF)(a1:Int)(self:AaF->(Int)->Option (Pv×AaF))(s:(List AaE)×(List Qq4)×Aae×Int×(List Aae)×(List Pv)×Int):Option (Pv×AaF):=Go.L.run (Cz a0 a1 self) s
def EL(a0:AaF)(a1:Int)(self:AaF->(Int)->Option (Pv×AaF))(a:List AaE)(b:List Qq4)(c:Aae):Option (Pv×AaF):=
 (Bs a0 a1 self) (a,b,c,a0.2.2.2,([]:List Aae),([]:List Pv),0)
def B2(a0:AaF)(a1:Int)(self:AaF->(Int)->Option (Pv×AaF))(e:Bool):Option (Pv×AaF):=
 if e then Qq8 (BE a0 (a0.1.getD a1.toNat Qq1)) (fun g=>Qq8 (Hr g.1) (fun k=>some (k,g.2)))else(if(a0.1.getD a1.toNat Qq1).2.1=4 then Qq8 (C3 a0 ((a0.1.getD a1.toNat Qq1).2.2.2.1)) (fun h=>Qq8 (EH h.1) (fun l=>some (l,h.2)))else(if(a0.1.getD a1.toNat Qq1).2.1=10 then Bb (0<=(a0.1.getD a1.toNat Qq1).2.2.2.2.2.2.2.2.1/\(a0.1.getD a1.toNat Qq1).2.2.2.2.2.2.2.2.1<(a0.1.length:Int)) (Qq8 (BE a0 (a0.1.getD (((a0.1.getD a1.toNat Qq1).2.2.2.2.2.2.2.2.1).toNat) Qq1)) (fun i=>Qq8 (C3 i.2 i.1) (fun a=>Qq8 (EH a.1) (fun b=>EI b.f.1 b.f.2.1 b.f.2.2.1 b.f.2.2.2.1 b.f.2.2.2.2 a.2.1 a.2.2.1 a.2.2.2.1 a.2.2.2.2))))else(if(a0.1.getD a1.toNat Qq1).2.1=5 then none else(if(a0.1.getD a1.toNat Qq1).2.1=6 then Bb (0<=(a0.1.getD a1.toNat Qq1).2.2.2.2.2.2.2.2.1/\(a0.1.getD a1.toNat Qq1).2.2.2.2.2.2.2.2.1<(a0.1.length:Int)) (Qq8 (BE a0 (a0.1.getD (((a0.1.getD a1.toNat Qq1).2.2.2.2.2.2.2.2.1).toNat) Qq1)) (fun c=>(C4 a0 a1 self) (c.2.1,c.2.2.1,c.2.2.2.1,c.2.2.2.2,([]:List Pv),c.1)))else(if(a0.1.getD a1.toNat Qq1).2.1=9 then none else(if(a0.1.getD a1.toNat Qq1).2.1=8 then Qq8 (D9 a0) (fun m=>Qq8 (Fp ((a0.1.getD a1.toNat Qq1).2.2.2.2.2.2.2.2.2.2.2) a0 (m.toNat:Int)) (fun d=>if d<0 then none else Bb (0<=d/\d<(((a0.1.getD a1.toNat Qq1).2.2.2.2.2.2.2.2.2.2.2).length:Int)) (Qq8 (Hr d) (fun n=>Qq8 (self a0 (((a0.1.getD a1.toNat Qq1).2.2.2.2.2.2.2.2.2.2.2).getD d.toNat Qq1)) (fun j=>Qq8 (Gp ([n,j.1])) (fun o=>some (o,j.2)))))))else(EL a0 a1 self) a0.1 a0.2.1 a0.2.2.1))))))
def Be(self:AaF->(Int)->Option (Pv×AaF))(a0:AaF)(a1:Int):Option (Pv×AaF):=
 Bb (0<=a1/\a1<(a0.1.length:Int)) (if(a0.1.getD a1.toNat Qq1).2.1=1 then Qq8 (DA a0 ((a0.1.getD a1.toNat Qq1).2.2.1)) (fun a=>Qq8 (Gp ([])) (fun b=>some (b,a)))else(if(a0.1.getD a1.toNat Qq1).2.1=2 then(B2 a0 a1 self) (decide ((a0.1.getD a1.toNat Qq1).2.1=2))else(B2 a0 a1 self) (decide ((a0.1.getD a1.toNat Qq1).2.1=3))))
theorem K3{self:AaF->(Int)->Option (Pv×AaF)}(hself:∀{p w:World}{H:PH} (hH:Le H (hp p)) (hU:Jm H) {O:List BN}{a0:AaF}{a1:Int}{ba0:Nat}{va0_0:Value}{va0_1:Value}{va0_2:Value} (hL:AW p (Ha [.box ba0 [va0_0,va0_1,va0_2,No a0.2.2.2] 60] O) w) (el:AL AaK (gz H p w (Ha [.box ba0 [va0_0,va0_1,va0_2,No a0.2.2.2] 60] O)) va0_0 (a0.1)) (gy:AL (.vec (.int .i64)) (gz H p w (Ha [.box ba0 [va0_0,va0_1,va0_2,No a0.2.2.2] 60] O)) va0_1 (a0.2.1)) (g0:AL .byte (gz H p w (Ha [.box ba0 [va0_0,va0_1,va0_2,No a0.2.2.2] 60] O)) va0_2 (a0.2.2.1)) {r:Pv×AaF} (h:self a0 a1=some r),Ok prog 19 [Aac ba0,No a1] w (fun v w'=>∃(u2:Value) (u3:Value) (u4:Value) (u5:Value) (u6:Value) (u7:Value),v=.agg #[No r.1.f.1,No r.1.f.2.1,u2,u3,u4]/\AW p (Ha [.box ba0 [u5,u6,u7,No r.2.2.2.2] 60] O) w'/\Le (fz w (Ha [.box ba0 [va0_0,va0_1,va0_2,No a0.2.2.2] 60] O)) (fz w' (Ha [.box ba0 [u5,u6,u7,No r.2.2.2.2] 60] O))/\AL .byte (gz H p w' (Ha [.box ba0 [u5,u6,u7,No r.2.2.2.2] 60] O)) u2 (r.1.f.2.2.1)/\AL .st (gz H p w' (Ha [.box ba0 [u5,u6,u7,No r.2.2.2.2] 60] O)) u3 (r.1.f.2.2.2.1)/\AL .tree (gz H p w' (Ha [.box ba0 [u5,u6,u7,No r.2.2.2.2] 60] O)) u4 (r.1.f.2.2.2.2)/\AL AaK (gz H p w' (Ha [.box ba0 [u5,u6,u7,No r.2.2.2.2] 60] O)) u5 (r.2.1)/\AL (.vec (.int .i64)) (gz H p w' (Ha [.box ba0 [u5,u6,u7,No r.2.2.2.2] 60] O)) u6 (r.2.2.1)/\AL .byte (gz H p w' (Ha [.box ba0 [u5,u6,u7,No r.2.2.2.2] 60] O)) u7 (r.2.2.2.1))){p w:World}{H:PH}(hH:Le H (hp p))(hU:Jm H){O:List BN}{a0:AaF}{a1:Int}{ba0:Nat}{va0_0 va0_1 va0_2:Value}(hL:AW p (Ha [.box ba0 [va0_0,va0_1,va0_2,No a0.2.2.2] 60] O) w)(el:AL AaK (gz H p w (Ha [.box ba0 [va0_0,va0_1,va0_2,No a0.2.2.2] 60] O)) va0_0 (a0.1))(gy:AL (.vec (.int .i64)) (gz H p w (Ha [.box ba0 [va0_0,va0_1,va0_2,No a0.2.2.2] 60] O)) va0_1 (a0.2.1))(g0:AL .byte (gz H p w (Ha [.box ba0 [va0_0,va0_1,va0_2,No a0.2.2.2] 60] O)) va0_2 (a0.2.2.1)){r:Pv×AaF}(h:Be self a0 a1=some r):
  Ok prog 19 [Aac ba0,No a1] w (fun v w'=>∃(u2:Value) (u3:Value) (u4:Value) (u5:Value) (u6:Value) (u7:Value),v=.agg #[No r.1.f.1,No r.1.f.2.1,u2,u3,u4]/\AW p (Ha [.box ba0 [u5,u6,u7,No r.2.2.2.2] 60] O) w'/\Le (fz w (Ha [.box ba0 [va0_0,va0_1,va0_2,No a0.2.2.2] 60] O)) (fz w' (Ha [.box ba0 [u5,u6,u7,No r.2.2.2.2] 60] O))/\AL .byte (gz H p w' (Ha [.box ba0 [u5,u6,u7,No r.2.2.2.2] 60] O)) u2 (r.1.f.2.2.1)/\AL .st (gz H p w' (Ha [.box ba0 [u5,u6,u7,No r.2.2.2.2] 60] O)) u3 (r.1.f.2.2.2.1)/\AL .tree (gz H p w' (Ha [.box ba0 [u5,u6,u7,No r.2.2.2.2] 60] O)) u4 (r.1.f.2.2.2.2)/\AL AaK (gz H p w' (Ha [.box ba0 [u5,u6,u7,No r.2.2.2.2] 60] O)) u5 (r.2.1)/\AL (.vec (.int .i64)) (gz H p w' (Ha [.box ba0 [u5,u6,u7,No r.2.2.2.2] 60] O)) u6 (r.2.2.1)/\AL .byte (gz H p w' (Ha [.box ba0 [u5,u6,u7,No r.2.2.2.2] 60] O)) u7 (r.2.2.2.1)):=by
 refine BC (n:=181) [(0,(Aac ba0)),(1,No a1)] func19 Z Z Z Z ?_;have hT:=Le.refl (fz w (Ha [.box ba0 [va0_0,va0_1,va0_2,No a0.2.2.2] 60] O));have bc:=hL.rG H;refine Aq<|Nh (t:=56) Z Z hL fun w2 b2 td gc _=>AZ B5.e Z td fun w3 b3 lq gd _=>Al<|Aq<|Ag (Ae 1 Z lq Z)<|Ag (AV Z)<|Ag (Af Z Aa1 Z HQ.e)<|Ag (Af Z Aas Z Ho.e)<|Ag (Ae 2 Z lq Z)<|Ar 1 Z<|A3 h fun su h=>?_;have bc:=bc.trans (Ac (gc.trans gd));refine Bf (el.mono bc) a1.toNat (CT su) (AD su) ?_;rintro p4 _ ⟨_,_,rfl,rfl,⟨_,_,rfl,rfl,⟨_,_,rfl,⟨e4v2,rfl,e4h2⟩,⟨_,_,rfl,rfl,⟨_,_,rfl,rfl,⟨_,_,rfl,rfl,⟨_,_,rfl,rfl,⟨_,_,rfl,rfl,⟨_,_,rfl,rfl,⟨_,_,rfl,rfl,⟨_,_,rfl,⟨e4v10,rfl,e4h10⟩,⟨e4v11,rfl,e4h11⟩⟩⟩⟩⟩⟩⟩⟩⟩⟩⟩⟩ te;refine Ag (Ce te (Ao lq))<|AZ Bl.e Z lq fun w6 b6 tf a4 _=>A7 0 Z tf Z (h1:=(BP Z (BP Z (BP e4h2.one (Uw 7 Z (BP e4h10.one (BP e4h11.one Mx))))))) fun w7 gx a5=>Al ?_
 refine Bm ((List AaE)×(List Qq4)×Aae×Value×Value×Value) (fun⟨hf,hg,hh,em,en,eo⟩=>[(2,(Aac b2)),(4,(Aac b3)),(5,(Aac b6))]) (fun⟨hf,hg,hh,em,en,eo⟩ wr=>DE p (Ha [.box b6 [.string ⟨((a0.1.getD a1.toNat Qq1).1).toArray⟩,No ((a0.1.getD a1.toNat Qq1).2.1),e4v2,No ((a0.1.getD a1.toNat Qq1).2.2.2.1),.bool ((a0.1.getD a1.toNat Qq1).2.2.2.2.1),No ((a0.1.getD a1.toNat Qq1).2.2.2.2.2.1),No ((a0.1.getD a1.toNat Qq1).2.2.2.2.2.2.1),No ((a0.1.getD a1.toNat Qq1).2.2.2.2.2.2.2.1),No ((a0.1.getD a1.toNat Qq1).2.2.2.2.2.2.2.2.1),No ((a0.1.getD a1.toNat Qq1).2.2.2.2.2.2.2.2.2.1),e4v10,e4v11] 50,.box b3 [No 0,No 0,Aaa,Aaa,Aaa] 34,.box b2 [Aac ba0] 56,.box ba0 [em,en,eo,No a0.2.2.2] 60] O) wr fun Oz=>AL .byte (gz H p wr Oz) e4v2 ((a0.1.getD a1.toNat Qq1).2.2.1)/\AL .st (gz H p wr Oz) e4v10 ((a0.1.getD a1.toNat Qq1).2.2.2.2.2.2.2.2.2.2.1)/\AL (.int .i64) (gz H p wr Oz) e4v11 ((a0.1.getD a1.toNat Qq1).2.2.2.2.2.2.2.2.2.2.2)/\AL AaK (gz H p wr Oz) em hf/\AL (.vec (.int .i64)) (gz H p wr Oz) en hg/\AL .byte (gz H p wr Oz) eo hh/\Le (fz w (Ha [.box ba0 [va0_0,va0_1,va0_2,No a0.2.2.2] 60] O)) (fz wr Oz)/\(EL a0 a1 self) hf hg hh=some r) ?_ ?_
 ·have au:=gx.rG H;refine Aq<|Ag (Af Z Aak Z B4.e)<|Ag (Ae 0 Z gx Z)<|Al<|A8<|AI 2 Z<|AS h ?_ ?_<;>intro p3 h
  ·refine Aq<|Ag (Ae 2 Z gx Z)<|Ag (Af Z Aak Z CC.e)<|Ag (Ae 0 Z gx Z) ?_;have lr:AW p (Ha [.box ba0 [va0_0,va0_1,va0_2,No a0.2.2.2] 60,.box b6 [.string ⟨((a0.1.getD a1.toNat Qq1).1).toArray⟩,No ((a0.1.getD a1.toNat Qq1).2.1),e4v2,No ((a0.1.getD a1.toNat Qq1).2.2.2.1),.bool ((a0.1.getD a1.toNat Qq1).2.2.2.2.1),No ((a0.1.getD a1.toNat Qq1).2.2.2.2.2.1),No ((a0.1.getD a1.toNat Qq1).2.2.2.2.2.2.1),No ((a0.1.getD a1.toNat Qq1).2.2.2.2.2.2.2.1),No ((a0.1.getD a1.toNat Qq1).2.2.2.2.2.2.2.2.1),No ((a0.1.getD a1.toNat Qq1).2.2.2.2.2.2.2.2.2.1),e4v10,e4v11] 50,.box b3 [No 0,No 0,Aaa,Aaa,Aaa] 34,.box b2 [Aac ba0] 56] O) w7:=gx.Bn [3] Z;have kg:=AJ [3] gx lr Z;refine Av h fun ub p5 h=>?_;have e4h2:=e4h2.mono (Ac (a4.trans a5));have bc:=bc.trans (Ac (a4.trans a5));have au:=au.trans (Ac kg)
   refine BO (Lx (a0:=a0) (a1:=((a0.1.getD a1.toNat Qq1).2.2.1)) (O:=(Ha [.box b6 [.string ⟨((a0.1.getD a1.toNat Qq1).1).toArray⟩,No ((a0.1.getD a1.toNat Qq1).2.1),e4v2,No ((a0.1.getD a1.toNat Qq1).2.2.2.1),.bool ((a0.1.getD a1.toNat Qq1).2.2.2.2.1),No ((a0.1.getD a1.toNat Qq1).2.2.2.2.2.1),No ((a0.1.getD a1.toNat Qq1).2.2.2.2.2.2.1),No ((a0.1.getD a1.toNat Qq1).2.2.2.2.2.2.2.1),No ((a0.1.getD a1.toNat Qq1).2.2.2.2.2.2.2.2.1),No ((a0.1.getD a1.toNat Qq1).2.2.2.2.2.2.2.2.2.1),e4v10,e4v11] 50,.box b3 [No 0,No 0,Aaa,Aaa,Aaa] 34,.box b2 [Aac ba0] 56] O)) hH lr ((el.mono bc).mono au) ((gy.mono bc).mono au) ((g0.mono bc).mono au) (e4h2.mono au) p5) ?_;rintro _ uc ⟨ol,om,oo,rfl,db,op,nc,nd,nf⟩;refine Al ?_;have ep:=db.rG H;refine Aq<|Av h fun ud p6 h=>Bv db (Kd _ _ (Ao db) (AL.nil _ _) p6) ?_;rintro _ ue ⟨oq,os,ot,rfl,ng,nh,ni⟩ is p7 kh;have dc:=ng.Dj hH db is;have dd:=nh.Dj hH db is;have de:=ni.mono (DN db is)
   refine A7 2 Z p7 Z (h1:=(BP Z (BP Z (BP dc.one (BP dd.one (BP de.one Mx)))))) fun uf ls cz=>Al<|Au<|Ay<|Bp ?_
   cases h
   refine DO (.cell Z Aaz Z B5.e (Bo (i:=2) ls Z)) ?_;have p8:=ls.AR (i:=1) Z;have p9:=p8.AR (i:=1) Z;have qa:=p9.AR (i:=1) Z;have hT:=hT.trans (gc.trans (gd.trans (a4.trans (a5.trans (kg.trans (op.trans (kh.trans (cz.trans ((Ah (i:=1) Z).trans ((Ah (i:=1) Z).trans (Ah (i:=1) Z)))))))))));have ep:=ep.trans (Ac (kh.trans (cz.trans ((Ah (i:=1) Z).trans ((Ah (i:=1) Z).trans (Ah (i:=1) Z))))));have dc:=dc.mono (Ac (cz.trans ((Ah (i:=1) Z).trans ((Ah (i:=1) Z).trans (Ah (i:=1) Z)))));have dd:=dd.mono (Ac (cz.trans ((Ah (i:=1) Z).trans ((Ah (i:=1) Z).trans (Ah (i:=1) Z)))));have de:=de.mono (Ac (cz.trans ((Ah (i:=1) Z).trans ((Ah (i:=1) Z).trans (Ah (i:=1) Z)))));exact⟨oq,os,ot,ol,om,oo,Z,qa,hT,dc,dd,de,(nc.mono ep),(nd.mono ep),(nf.mono ep)⟩
  refine Bm Bool (fun df=>[(2,(Aac b2)),(4,(Aac b3)),(5,(Aac b6)),(24,No ((a0.1.getD a1.toNat Qq1).2.1)),(32,.bool df)]) (fun df wr=>DE p (Ha [.box b6 [.string ⟨((a0.1.getD a1.toNat Qq1).1).toArray⟩,No ((a0.1.getD a1.toNat Qq1).2.1),e4v2,No ((a0.1.getD a1.toNat Qq1).2.2.2.1),.bool ((a0.1.getD a1.toNat Qq1).2.2.2.2.1),No ((a0.1.getD a1.toNat Qq1).2.2.2.2.2.1),No ((a0.1.getD a1.toNat Qq1).2.2.2.2.2.2.1),No ((a0.1.getD a1.toNat Qq1).2.2.2.2.2.2.2.1),No ((a0.1.getD a1.toNat Qq1).2.2.2.2.2.2.2.2.1),No ((a0.1.getD a1.toNat Qq1).2.2.2.2.2.2.2.2.2.1),e4v10,e4v11] 50,.box b3 [No 0,No 0,Aaa,Aaa,Aaa] 34,.box b2 [Aac ba0] 56,.box ba0 [va0_0,va0_1,va0_2,No a0.2.2.2] 60] O) wr fun Oz=>AL .byte (gz H p wr Oz) e4v2 ((a0.1.getD a1.toNat Qq1).2.2.1)/\AL .st (gz H p wr Oz) e4v10 ((a0.1.getD a1.toNat Qq1).2.2.2.2.2.2.2.2.2.2.1)/\AL (.int .i64) (gz H p wr Oz) e4v11 ((a0.1.getD a1.toNat Qq1).2.2.2.2.2.2.2.2.2.2.2)/\AL AaK (gz H p wr Oz) va0_0 (a0.1)/\AL (.vec (.int .i64)) (gz H p wr Oz) va0_1 (a0.2.1)/\AL .byte (gz H p wr Oz) va0_2 (a0.2.2.1)/\Le (fz w (Ha [.box ba0 [va0_0,va0_1,va0_2,No a0.2.2.2] 60] O)) (fz wr Oz)/\(B2 a0 a1 self) df=some r) ?_ ?_
  ·refine AI 2 Z<|AS h ?_ ?_<;>intro qb h
   ·refine A4 ?_;have hT:=hT.trans (gc.trans (gd.trans (a4.trans a5)));have e4h2:=e4h2.mono (Ac (a4.trans a5));have e4h10:=e4h10.mono (Ac (a4.trans a5));have e4h11:=e4h11.mono (Ac (a4.trans a5));have bc:=bc.trans (Ac (a4.trans a5));refine AH _ ⟨gx,(e4h2.mono au),(e4h10.mono au),(e4h11.mono au),((el.mono bc).mono au),((gy.mono bc).mono au),((g0.mono bc).mono au),hT,h⟩
   refine Az<|Ar 2 Z<|AP ?_;have hT:=hT.trans (gc.trans (gd.trans (a4.trans a5)));have e4h2:=e4h2.mono (Ac (a4.trans a5));have e4h10:=e4h10.mono (Ac (a4.trans a5));have e4h11:=e4h11.mono (Ac (a4.trans a5));have bc:=bc.trans (Ac (a4.trans a5));refine AH _ ⟨gx,(e4h2.mono au),(e4h10.mono au),(e4h11.mono au),((el.mono bc).mono au),((gy.mono bc).mono au),((g0.mono bc).mono au),hT,h⟩
  have hT:=hT.trans (gc.trans (gd.trans (a4.trans a5)));rintro df it ⟨av,dg,dh,bt,az,a6,a7,hT,h⟩;refine Bi h ?_ ?_<;>intro qc h
  ·have b5:=av.rG H;refine Aq<|Ag (Ae 2 Z av Z)<|Ag (Ax 0 Z Bl.e av Z) ?_;have lt:AW p (Ha [.box ba0 [va0_0,va0_1,va0_2,No a0.2.2.2] 60,.box b6 [.string ⟨((a0.1.getD a1.toNat Qq1).1).toArray⟩,No ((a0.1.getD a1.toNat Qq1).2.1),e4v2,No ((a0.1.getD a1.toNat Qq1).2.2.2.1),.bool ((a0.1.getD a1.toNat Qq1).2.2.2.2.1),No ((a0.1.getD a1.toNat Qq1).2.2.2.2.2.1),No ((a0.1.getD a1.toNat Qq1).2.2.2.2.2.2.1),No ((a0.1.getD a1.toNat Qq1).2.2.2.2.2.2.2.1),No ((a0.1.getD a1.toNat Qq1).2.2.2.2.2.2.2.2.1),No ((a0.1.getD a1.toNat Qq1).2.2.2.2.2.2.2.2.2.1),e4v10,e4v11] 50,.box b3 [No 0,No 0,Aaa,Aaa,Aaa] 34,.box b2 [Aac ba0] 56] O) it:=av.Bn [3] Z;have ki:=AJ [3] av lt Z;refine Av h fun ug qd h=>?_;have b5:=b5.trans (Ac ki)
   refine BO (Ga (a0:=a0) (a1:=(a0.1.getD a1.toNat Qq1)) (O:=(Ha [.box b6 [.string ⟨((a0.1.getD a1.toNat Qq1).1).toArray⟩,No ((a0.1.getD a1.toNat Qq1).2.1),e4v2,No ((a0.1.getD a1.toNat Qq1).2.2.2.1),.bool ((a0.1.getD a1.toNat Qq1).2.2.2.2.1),No ((a0.1.getD a1.toNat Qq1).2.2.2.2.2.1),No ((a0.1.getD a1.toNat Qq1).2.2.2.2.2.2.1),No ((a0.1.getD a1.toNat Qq1).2.2.2.2.2.2.2.1),No ((a0.1.getD a1.toNat Qq1).2.2.2.2.2.2.2.2.1),No ((a0.1.getD a1.toNat Qq1).2.2.2.2.2.2.2.2.2.1),e4v10,e4v11] 50,.box b3 [No 0,No 0,Aaa,Aaa,Aaa] 34,.box b2 [Aac ba0] 56] O)) hH lt (az.mono b5) (a6.mono b5) (a7.mono b5) (dg.mono b5) (dh.mono b5) (bt.mono b5) qd) ?_;rintro _ uh ⟨ou,ov,ow,rfl,eq,ox,ge,gf,gg⟩;refine Av h fun ui qe h=>Bv eq (Lv _ _ (Ao eq) qe) ?_;rintro _ uj ⟨oy,oz,o0,rfl,nj,nk,nl⟩ iu qf er;have di:=nj.Dj hH eq iu;have dj:=nk.Dj hH eq iu;have dk:=nl.Dj hH eq iu;refine A7 2 Z qf Z (h1:=(BP Z (BP Z (BP di.one (BP dj.one (BP dk.one Mx)))))) ?_
   intro uk lu bu;refine Al<|Au<|Ay<|Bp ?_
   cases h
   refine DO (.cell Z Aaz Z B5.e (Bo (i:=2) lu Z)) ?_;have qg:=lu.AR (i:=1) Z;have qh:=qg.AR (i:=1) Z;have qi:=qh.AR (i:=1) Z;have hT:=hT.trans (ki.trans (ox.trans (er.trans (bu.trans ((Ah (i:=1) Z).trans ((Ah (i:=1) Z).trans (Ah (i:=1) Z)))))));have ge:=ge.mono (Ac (er.trans (bu.trans ((Ah (i:=1) Z).trans ((Ah (i:=1) Z).trans (Ah (i:=1) Z))))));have gf:=gf.mono (Ac (er.trans (bu.trans ((Ah (i:=1) Z).trans ((Ah (i:=1) Z).trans (Ah (i:=1) Z))))));have gg:=gg.mono (Ac (er.trans (bu.trans ((Ah (i:=1) Z).trans ((Ah (i:=1) Z).trans (Ah (i:=1) Z))))));have di:=di.mono (Ac (bu.trans ((Ah (i:=1) Z).trans ((Ah (i:=1) Z).trans (Ah (i:=1) Z)))));have dj:=dj.mono (Ac (bu.trans ((Ah (i:=1) Z).trans ((Ah (i:=1) Z).trans (Ah (i:=1) Z)))));have dk:=dk.mono (Ac (bu.trans ((Ah (i:=1) Z).trans ((Ah (i:=1) Z).trans (Ah (i:=1) Z)))));exact⟨oy,oz,o0,ou,ov,ow,Z,qi,hT,di,dj,dk,ge,gf,gg⟩
  have e:=av.rG H;refine AI 2 Z<|AS h ?_ ?_<;>intro qj h
  ·refine Aq<|Ag (Ae 2 Z av Z)<|Ag (Af Z Aak Z B4.e)<|Ag (Ae 0 Z av Z) ?_;have lv:AW p (Ha [.box ba0 [va0_0,va0_1,va0_2,No a0.2.2.2] 60,.box b6 [.string ⟨((a0.1.getD a1.toNat Qq1).1).toArray⟩,No ((a0.1.getD a1.toNat Qq1).2.1),e4v2,No ((a0.1.getD a1.toNat Qq1).2.2.2.1),.bool ((a0.1.getD a1.toNat Qq1).2.2.2.2.1),No ((a0.1.getD a1.toNat Qq1).2.2.2.2.2.1),No ((a0.1.getD a1.toNat Qq1).2.2.2.2.2.2.1),No ((a0.1.getD a1.toNat Qq1).2.2.2.2.2.2.2.1),No ((a0.1.getD a1.toNat Qq1).2.2.2.2.2.2.2.2.1),No ((a0.1.getD a1.toNat Qq1).2.2.2.2.2.2.2.2.2.1),e4v10,e4v11] 50,.box b3 [No 0,No 0,Aaa,Aaa,Aaa] 34,.box b2 [Aac ba0] 56] O) it:=av.Bn [3] Z;have kj:=AJ [3] av lv Z;refine Av h fun ul qk h=>?_;have e:=e.trans (Ac kj)
   refine BO (GF (a0:=a0) (a1:=((a0.1.getD a1.toNat Qq1).2.2.2.1)) (O:=(Ha [.box b6 [.string ⟨((a0.1.getD a1.toNat Qq1).1).toArray⟩,No ((a0.1.getD a1.toNat Qq1).2.1),e4v2,No ((a0.1.getD a1.toNat Qq1).2.2.2.1),.bool ((a0.1.getD a1.toNat Qq1).2.2.2.2.1),No ((a0.1.getD a1.toNat Qq1).2.2.2.2.2.1),No ((a0.1.getD a1.toNat Qq1).2.2.2.2.2.2.1),No ((a0.1.getD a1.toNat Qq1).2.2.2.2.2.2.2.1),No ((a0.1.getD a1.toNat Qq1).2.2.2.2.2.2.2.2.1),No ((a0.1.getD a1.toNat Qq1).2.2.2.2.2.2.2.2.2.1),e4v10,e4v11] 50,.box b3 [No 0,No 0,Aaa,Aaa,Aaa] 34,.box b2 [Aac ba0] 56] O)) hH lv (az.mono e) (a6.mono e) (a7.mono e) qk) ?_;rintro tg um ⟨_,o1,o2,o3,rfl,es,o4,nm,gh,gi,gj⟩;refine Av h fun un ql h=>Bv es (LM _ _ (Ao es) nm ql) ?_;rintro _ uo ⟨o5,o6,o7,rfl,nn,no,np⟩ iv qm et;have dl:=nn.mono (DN es iv);have dm:=no.Dj hH es iv;have dn:=np.Dj hH es iv;refine A7 2 Z qm Z (h1:=(BP Z (BP Z (BP dl.one (BP dm.one (BP dn.one Mx)))))) fun up lw bv=>Al ?_
   refine Au<|Ay<|Bp ?_
   cases h
   refine DO (.cell Z Aaz Z B5.e (Bo (i:=2) lw Z)) ?_;have qn:=lw.AR (i:=1) Z;have qo:=qn.AR (i:=1) Z;have qp:=qo.AR (i:=1) Z;have hT:=hT.trans (kj.trans (o4.trans (et.trans (bv.trans ((Ah (i:=1) Z).trans ((Ah (i:=1) Z).trans (Ah (i:=1) Z)))))));have gh:=gh.mono (Ac (et.trans (bv.trans ((Ah (i:=1) Z).trans ((Ah (i:=1) Z).trans (Ah (i:=1) Z))))));have gi:=gi.mono (Ac (et.trans (bv.trans ((Ah (i:=1) Z).trans ((Ah (i:=1) Z).trans (Ah (i:=1) Z))))));have gj:=gj.mono (Ac (et.trans (bv.trans ((Ah (i:=1) Z).trans ((Ah (i:=1) Z).trans (Ah (i:=1) Z))))));have dl:=dl.mono (Ac (bv.trans ((Ah (i:=1) Z).trans ((Ah (i:=1) Z).trans (Ah (i:=1) Z)))));have dm:=dm.mono (Ac (bv.trans ((Ah (i:=1) Z).trans ((Ah (i:=1) Z).trans (Ah (i:=1) Z)))));have dn:=dn.mono (Ac (bv.trans ((Ah (i:=1) Z).trans ((Ah (i:=1) Z).trans (Ah (i:=1) Z)))));exact⟨o5,o6,o7,o1,o2,o3,Z,qp,hT,dl,dm,dn,gh,gi,gj⟩
  refine AI 2 Z<|AS h ?_ ?_<;>intro qq h
  ·refine Bm (Int×Int×Aae×(List Aae)×(List Pv)×(List AaE)×(List Qq4)×Aae×Int×Value×Value×Value×Value×Value×Value) (fun⟨iw,ix,iy,iz,i0,i1,i2,i3,i4,eu,ev,ew,ex,ey,ez⟩=>[(4,(Aac b3))]) (fun⟨iw,ix,iy,iz,i0,i1,i2,i3,i4,eu,ev,ew,ex,ey,ez⟩ wr=>DE p (Ha [.box b6 [.string ⟨((a0.1.getD a1.toNat Qq1).1).toArray⟩,No ((a0.1.getD a1.toNat Qq1).2.1),e4v2,No ((a0.1.getD a1.toNat Qq1).2.2.2.1),.bool ((a0.1.getD a1.toNat Qq1).2.2.2.2.1),No ((a0.1.getD a1.toNat Qq1).2.2.2.2.2.1),No ((a0.1.getD a1.toNat Qq1).2.2.2.2.2.2.1),No ((a0.1.getD a1.toNat Qq1).2.2.2.2.2.2.2.1),No ((a0.1.getD a1.toNat Qq1).2.2.2.2.2.2.2.2.1),No ((a0.1.getD a1.toNat Qq1).2.2.2.2.2.2.2.2.2.1),e4v10,e4v11] 50,.box b3 [No iw,No ix,eu,ev,ew] 34,.box b2 [Aac ba0] 56,.box ba0 [ex,ey,ez,No i4] 60] O) wr fun Oz=>AL .byte (gz H p wr Oz) e4v2 ((a0.1.getD a1.toNat Qq1).2.2.1)/\AL .st (gz H p wr Oz) e4v10 ((a0.1.getD a1.toNat Qq1).2.2.2.2.2.2.2.2.2.2.1)/\AL (.int .i64) (gz H p wr Oz) e4v11 ((a0.1.getD a1.toNat Qq1).2.2.2.2.2.2.2.2.2.2.2)/\AL .byte (gz H p wr Oz) eu iy/\AL .st (gz H p wr Oz) ev iz/\AL .tree (gz H p wr Oz) ew i0/\AL AaK (gz H p wr Oz) ex i1/\AL (.vec (.int .i64)) (gz H p wr Oz) ey i2/\AL .byte (gz H p wr Oz) ez i3/\Le (fz w (Ha [.box ba0 [va0_0,va0_1,va0_2,No a0.2.2.2] 60] O)) (fz wr Oz)/\EI iw ix iy iz i0 i1 i2 i3 i4=some r) ?_ ?_
   ·refine Ek (IB (D6 (IB Gy))) (fun z0 z=>Le (gz H p z0 (Ha [.box b6 [.string ⟨((a0.1.getD a1.toNat Qq1).1).toArray⟩,No ((a0.1.getD a1.toNat Qq1).2.1),e4v2,No ((a0.1.getD a1.toNat Qq1).2.2.2.1),.bool ((a0.1.getD a1.toNat Qq1).2.2.2.2.1),No ((a0.1.getD a1.toNat Qq1).2.2.2.2.2.1),No ((a0.1.getD a1.toNat Qq1).2.2.2.2.2.2.1),No ((a0.1.getD a1.toNat Qq1).2.2.2.2.2.2.2.1),No ((a0.1.getD a1.toNat Qq1).2.2.2.2.2.2.2.2.1),No ((a0.1.getD a1.toNat Qq1).2.2.2.2.2.2.2.2.2.1),e4v10,e4v11] 50,.box b3 [No 0,No 0,Aaa,Aaa,Aaa] 34,.box b2 [Aac ba0] 56,.box ba0 [va0_0,va0_1,va0_2,No a0.2.2.2] 60] O)) (hp z)/\z.heap[b6]? = some (.cells [.string ⟨((a0.1.getD a1.toNat Qq1).1).toArray⟩,No ((a0.1.getD a1.toNat Qq1).2.1),e4v2,No ((a0.1.getD a1.toNat Qq1).2.2.2.1),.bool ((a0.1.getD a1.toNat Qq1).2.2.2.2.1),No ((a0.1.getD a1.toNat Qq1).2.2.2.2.2.1),No ((a0.1.getD a1.toNat Qq1).2.2.2.2.2.2.1),No ((a0.1.getD a1.toNat Qq1).2.2.2.2.2.2.2.1),No ((a0.1.getD a1.toNat Qq1).2.2.2.2.2.2.2.2.1),No ((a0.1.getD a1.toNat Qq1).2.2.2.2.2.2.2.2.2.1),e4v10,e4v11].toArray 50 (0,0))/\z.heap[b3]? = some (.cells [No 0,No 0,Aaa,Aaa,Aaa].toArray 34 (0,0))/\z.heap[b2]? = some (.cells [Aac ba0].toArray 56 (0,0))) mixed Z (fun b7 sw lx=>?_)
    have an:=av.call lx;have kk:=Bd av lx;have af:=an.rG H;refine Gz ⟨af.trans (Ao an),an.at (i:=0) Z,an.at (i:=1) Z,an.at (i:=2) Z⟩ fun kI262=>Aw 0 b7 kI262 Z (fun _ hI=>EB Z hI.2.2.2 Z) Z<|Aw 1 b7 kI262 Z (fun _ hI=>EB Z hI.2.2.2 Z) Z<|Aw 2 b7 kI262 Z (fun _ hI=>EB Z hI.2.2.2 Z) Z<|Aw 3 b7 kI262 Z (fun _ _=>AV Z) Z<|Aw 4 b7 kI262 Z (fun _ _=>Af Z Aa1 Z HQ.e) Z<|Aw 5 b7 kI262 Z (fun _ _=>Af Z Aas Z Ho.e) Z<|Aw 7 b7 kI262 Z (fun _ _=>Af Z Aak Z B4.e) Z<|Aw 8 b7 kI262 Z (fun _ hI=>EB Z hI.2.1 Z) Z<|CK 6 Z<|Ag (Ae 3 Z an Z)<|AB ⟨af.trans (Ao an),an.at (i:=0) Z,an.at (i:=1) Z,an.at (i:=2) Z⟩ fun kI263=>CK 9 Z<|A3 h fun ly h=>?_;have e:=e.trans (Ac kk)
    refine Bf ((az.mono e).mono af) (((a0.1.getD a1.toNat Qq1).2.2.2.2.2.2.2.2.1).toNat) (CT ly) (AD ly) ?_;rintro uq _ ⟨_,_,rfl,rfl,⟨_,_,rfl,rfl,⟨_,_,rfl,⟨e264v2,rfl,e264h2⟩,⟨_,_,rfl,rfl,⟨_,_,rfl,rfl,⟨_,_,rfl,rfl,⟨_,_,rfl,rfl,⟨_,_,rfl,rfl,⟨_,_,rfl,rfl,⟨_,_,rfl,rfl,⟨_,_,rfl,⟨e264v10,rfl,e264h10⟩,⟨e264v11,rfl,e264h11⟩⟩⟩⟩⟩⟩⟩⟩⟩⟩⟩⟩ qr;refine AB ⟨af.trans (Ao an),an.at (i:=0) Z,an.at (i:=1) Z,an.at (i:=2) Z⟩ fun kI266=>CK 10 Z<|Ag (Ce qr (Ao an))<|AB ⟨af.trans (Ao an),an.at (i:=0) Z,an.at (i:=1) Z,an.at (i:=2) Z⟩ fun kI267=>CK 11 Z ?_
    have lz:AW p (Ha [.box ba0 [va0_0,va0_1,va0_2,No a0.2.2.2] 60,.box b6 [.string ⟨((a0.1.getD a1.toNat Qq1).1).toArray⟩,No ((a0.1.getD a1.toNat Qq1).2.1),e4v2,No ((a0.1.getD a1.toNat Qq1).2.2.2.1),.bool ((a0.1.getD a1.toNat Qq1).2.2.2.2.1),No ((a0.1.getD a1.toNat Qq1).2.2.2.2.2.1),No ((a0.1.getD a1.toNat Qq1).2.2.2.2.2.2.1),No ((a0.1.getD a1.toNat Qq1).2.2.2.2.2.2.2.1),No ((a0.1.getD a1.toNat Qq1).2.2.2.2.2.2.2.2.1),No ((a0.1.getD a1.toNat Qq1).2.2.2.2.2.2.2.2.2.1),e4v10,e4v11] 50,.box b3 [No 0,No 0,Aaa,Aaa,Aaa] 34,.box b2 [Aac ba0] 56] O) sw:=an.Bn [3] Z;have c0:=AJ [3] an lz Z;refine Av h fun o8 qs h=>?_;have e264h2:=e264h2.mono (Ac c0);have e264h10:=e264h10.mono (Ac c0);have e264h11:=e264h11.mono (Ac c0);have af:=af.trans (Ac c0)
    refine BO (Ga (a0:=a0) (a1:=(a0.1.getD (((a0.1.getD a1.toNat Qq1).2.2.2.2.2.2.2.2.1).toNat) Qq1)) (O:=(Ha [.box b6 [.string ⟨((a0.1.getD a1.toNat Qq1).1).toArray⟩,No ((a0.1.getD a1.toNat Qq1).2.1),e4v2,No ((a0.1.getD a1.toNat Qq1).2.2.2.1),.bool ((a0.1.getD a1.toNat Qq1).2.2.2.2.1),No ((a0.1.getD a1.toNat Qq1).2.2.2.2.2.1),No ((a0.1.getD a1.toNat Qq1).2.2.2.2.2.2.1),No ((a0.1.getD a1.toNat Qq1).2.2.2.2.2.2.2.1),No ((a0.1.getD a1.toNat Qq1).2.2.2.2.2.2.2.2.1),No ((a0.1.getD a1.toNat Qq1).2.2.2.2.2.2.2.2.2.1),e4v10,e4v11] 50,.box b3 [No 0,No 0,Aaa,Aaa,Aaa] 34,.box b2 [Aac ba0] 56] O)) hH lz ((az.mono e).mono af) ((a6.mono e).mono af) ((a7.mono e).mono af) e264h2 e264h10 e264h11 qs) ?_;rintro _ ur ⟨th,ti,tj,rfl,e0,kl,nq,nr,ns⟩;have af:=af.trans (Ac kl);refine AB ⟨af.trans (Ao e0),e0.at (i:=1) Z,e0.at (i:=2) Z,e0.at (i:=3) Z⟩ fun kI271=>CK 12 Z<|Av h fun gk qt h=>?_
    refine BO (GF (a0:=o8.2) (a1:=o8.1) (O:=(Ha [.box b6 [.string ⟨((a0.1.getD a1.toNat Qq1).1).toArray⟩,No ((a0.1.getD a1.toNat Qq1).2.1),e4v2,No ((a0.1.getD a1.toNat Qq1).2.2.2.1),.bool ((a0.1.getD a1.toNat Qq1).2.2.2.2.1),No ((a0.1.getD a1.toNat Qq1).2.2.2.2.2.1),No ((a0.1.getD a1.toNat Qq1).2.2.2.2.2.2.1),No ((a0.1.getD a1.toNat Qq1).2.2.2.2.2.2.2.1),No ((a0.1.getD a1.toNat Qq1).2.2.2.2.2.2.2.2.1),No ((a0.1.getD a1.toNat Qq1).2.2.2.2.2.2.2.2.2.1),e4v10,e4v11] 50,.box b3 [No 0,No 0,Aaa,Aaa,Aaa] 34,.box b2 [Aac ba0] 56] O)) hH e0 nq nr ns qt) ?_;rintro tk us ⟨_,hi,hj,hk,rfl,bi,km,nt,gl,gm,gn⟩;have af:=af.trans (Ac km);refine AB ⟨af.trans (Ao bi),bi.at (i:=1) Z,bi.at (i:=2) Z,bi.at (i:=3) Z⟩ fun kI274=>CK 13 Z<|Av h fun cs qu h=>Bv bi (LM _ _ (Ao bi) nt qu) ?_;rintro _ ut ⟨hl,hm,hn,rfl,nu,nv,nw⟩ i5 e1 c2;have dp:=nu.mono (DN bi i5);have dq:=nv.Dj hH bi i5;have dr:=nw.Dj hH bi i5
    have af:=af.trans (Ac c2);refine AB ⟨af.trans (Ao e1),e1.at (i:=1) Z,e1.at (i:=2) Z,e1.at (i:=3) Z⟩ fun kI277=>CK 14 Z<|A7 2 Z e1 Z (h1:=(BP Z (BP Z (BP dp.one (BP dq.one (BP dr.one Mx)))))) fun o9 l0 be=>En<|Cq ?_;have i6:AW p (Ha [.box b3 [No cs.f.1,No cs.f.2.1,hl,hm,hn] 34,.box b2 [Aac ba0] 56,.box ba0 [hi,hj,hk,No gk.2.2.2.2] 60,.box b6 [.string ⟨((a0.1.getD a1.toNat Qq1).1).toArray⟩,No ((a0.1.getD a1.toNat Qq1).2.1),e4v2,No ((a0.1.getD a1.toNat Qq1).2.2.2.1),.bool ((a0.1.getD a1.toNat Qq1).2.2.2.2.1),No ((a0.1.getD a1.toNat Qq1).2.2.2.2.2.1),No ((a0.1.getD a1.toNat Qq1).2.2.2.2.2.2.1),No ((a0.1.getD a1.toNat Qq1).2.2.2.2.2.2.2.1),No ((a0.1.getD a1.toNat Qq1).2.2.2.2.2.2.2.2.1),No ((a0.1.getD a1.toNat Qq1).2.2.2.2.2.2.2.2.2.1),e4v10,e4v11] 50] O) o9:=l0.Bn [3,3] Z;have bf:=AJ [3,3] l0 i6 Z
    have l1:AW p (Ha [.box b6 [.string ⟨((a0.1.getD a1.toNat Qq1).1).toArray⟩,No ((a0.1.getD a1.toNat Qq1).2.1),e4v2,No ((a0.1.getD a1.toNat Qq1).2.2.2.1),.bool ((a0.1.getD a1.toNat Qq1).2.2.2.2.1),No ((a0.1.getD a1.toNat Qq1).2.2.2.2.2.1),No ((a0.1.getD a1.toNat Qq1).2.2.2.2.2.2.1),No ((a0.1.getD a1.toNat Qq1).2.2.2.2.2.2.2.1),No ((a0.1.getD a1.toNat Qq1).2.2.2.2.2.2.2.2.1),No ((a0.1.getD a1.toNat Qq1).2.2.2.2.2.2.2.2.2.1),e4v10,e4v11] 50,.box b3 [No cs.f.1,No cs.f.2.1,hl,hm,hn] 34,.box b2 [Aac ba0] 56,.box ba0 [hi,hj,hk,No gk.2.2.2.2] 60] O) o9:=i6.Bn [3] Z;have bg:=AJ [3] i6 l1 Z;have hT:=hT.trans (kk.trans (c0.trans (kl.trans (km.trans (c2.trans (be.trans (bf.trans bg)))))));have gl:=gl.mono (Ac (c2.trans (be.trans (bf.trans bg))));have gm:=gm.mono (Ac (c2.trans (be.trans (bf.trans bg))));have gn:=gn.mono (Ac (c2.trans (be.trans (bf.trans bg))));have dp:=dp.mono (Ac (be.trans (bf.trans bg)));have dq:=dq.mono (Ac (be.trans (bf.trans bg)));have dr:=dr.mono (Ac (be.trans (bf.trans bg)))
    have af:=af.trans (Ac (be.trans (bf.trans bg)));refine AH (cs.f.1,cs.f.2.1,cs.f.2.2.1,cs.f.2.2.2.1,cs.f.2.2.2.2,gk.2.1,gk.2.2.1,gk.2.2.2.1,gk.2.2.2.2,hl,hm,hn,hi,hj,hk) ⟨l1,((dg.mono e).mono af),((dh.mono e).mono af),((bt.mono e).mono af),dp,dq,dr,gl,gm,gn,hT,h⟩
   rintro⟨iw,ix,iy,iz,i0,i1,i2,i3,i4,eu,ev,ew,ex,ey,ez⟩ tv ⟨l2,s4,s5,s6,ho,hq,hr,hs,ht,hu,hT,h⟩;refine Au<|Ay<|Bp ?_
   cases h
   refine DO (.cell Z Aaz Z B5.e (Bo (i:=1) l2 Z)) ?_;have qv:=l2.AR (i:=0) Z;have qw:=qv.AR (i:=0) Z;have qx:=qw.AR (i:=0) Z;have ho:=ho.mono (Ac ((Ah (i:=0) Z).trans ((Ah (i:=0) Z).trans (Ah (i:=0) Z))));have hq:=hq.mono (Ac ((Ah (i:=0) Z).trans ((Ah (i:=0) Z).trans (Ah (i:=0) Z))));have hr:=hr.mono (Ac ((Ah (i:=0) Z).trans ((Ah (i:=0) Z).trans (Ah (i:=0) Z))));have hs:=hs.mono (Ac ((Ah (i:=0) Z).trans ((Ah (i:=0) Z).trans (Ah (i:=0) Z))));have ht:=ht.mono (Ac ((Ah (i:=0) Z).trans ((Ah (i:=0) Z).trans (Ah (i:=0) Z))));have hu:=hu.mono (Ac ((Ah (i:=0) Z).trans ((Ah (i:=0) Z).trans (Ah (i:=0) Z))));have hT:=hT.trans ((Ah (i:=0) Z).trans ((Ah (i:=0) Z).trans (Ah (i:=0) Z)));exact⟨eu,ev,ew,ex,ey,ez,Z,qx,hT,ho,hq,hr,hs,ht,hu⟩
  refine AI 2 Z<|AS h ?_ ?_<;>intro qy h
  ·cases h
  refine AI 2 Z<|AS h ?_ ?_<;>intro qz h
  ·refine B1 1 Z ?_;obtain⟨l3,hv,i7⟩:=CF .tree H 34 av;refine Al ?_
   refine Bm ((List Pv)×(List AaE)×(List Qq4)×Aae×Int×Value×Qq5×Value×Value×Value) (fun⟨hw,i8,i9,ja,jb,g1,e2,e3,e4,e5⟩=>[(4,(Aac b3)),(6,g1)]) (fun⟨hw,i8,i9,ja,jb,g1,e2,e3,e4,e5⟩ wr=>DE p (Ha [.row g1 34 5 (hw).length e2,.box b6 [.string ⟨((a0.1.getD a1.toNat Qq1).1).toArray⟩,No ((a0.1.getD a1.toNat Qq1).2.1),e4v2,No ((a0.1.getD a1.toNat Qq1).2.2.2.1),.bool ((a0.1.getD a1.toNat Qq1).2.2.2.2.1),No ((a0.1.getD a1.toNat Qq1).2.2.2.2.2.1),No ((a0.1.getD a1.toNat Qq1).2.2.2.2.2.2.1),No ((a0.1.getD a1.toNat Qq1).2.2.2.2.2.2.2.1),No ((a0.1.getD a1.toNat Qq1).2.2.2.2.2.2.2.2.1),No ((a0.1.getD a1.toNat Qq1).2.2.2.2.2.2.2.2.2.1),e4v10,e4v11] 50,.box b3 [No 0,No 0,Aaa,Aaa,Aaa] 34,.box b2 [Aac ba0] 56,.box ba0 [e3,e4,e5,No jb] 60] O) wr fun Oz=>A5 .tree (gz H p wr Oz) hw e2/\AL .byte (gz H p wr Oz) e4v2 ((a0.1.getD a1.toNat Qq1).2.2.1)/\AL .st (gz H p wr Oz) e4v10 ((a0.1.getD a1.toNat Qq1).2.2.2.2.2.2.2.2.2.2.1)/\AL (.int .i64) (gz H p wr Oz) e4v11 ((a0.1.getD a1.toNat Qq1).2.2.2.2.2.2.2.2.2.2.2)/\AL AaK (gz H p wr Oz) e3 i8/\AL (.vec (.int .i64)) (gz H p wr Oz) e4 i9/\AL .byte (gz H p wr Oz) e5 ja/\Le (fz w (Ha [.box ba0 [va0_0,va0_1,va0_2,No a0.2.2.2] 60] O)) (fz wr Oz)/\EJ hw i8 i9 ja jb=some r) ?_ ?_
   ·refine CI (Qqz 0 10 (.tail 10)) mixed V (fun uu l4=>?_);have ds:=l3.call l4;have hx:=Bd l3 l4
    iterate 2 refine B9 Z (Ae 3 Z ds Z) Z ?_
    refine B9 Z (AV Z) Z<|B9 Z (Af Z Aa1 Z HQ.e) Z<|B9 Z (Af Z Aas Z Ho.e) Z<|B9 Z (Ae 4 Z ds Z) Z<|B9 Z (Af Z Aak Z B4.e) Z<|B9 Z (Ae 1 Z ds Z) Z<|A3 h fun l5 h=>?_;have e:=e.trans (Ac (hv.trans hx));refine Fl Z Z Z Aat (az.mono e) (((a0.1.getD a1.toNat Qq1).2.2.2.2.2.2.2.2.1).toNat) (CT l5) (AD l5) Z ?_;rintro uv _ ⟨_,_,rfl,rfl,⟨_,_,rfl,rfl,⟨_,_,rfl,⟨e341v2,rfl,e341h2⟩,⟨_,_,rfl,rfl,⟨_,_,rfl,rfl,⟨_,_,rfl,rfl,⟨_,_,rfl,rfl,⟨_,_,rfl,rfl,⟨_,_,rfl,rfl,⟨_,_,rfl,rfl,⟨_,_,rfl,⟨e341v10,rfl,e341h10⟩,⟨e341v11,rfl,e341h11⟩⟩⟩⟩⟩⟩⟩⟩⟩⟩⟩⟩ q0;refine B9 Z (Ce q0 (Ao ds)) Z<|B8 (fun sx l6=>?_);have l7:=ds.call l6;have cm:=Bd ds l6
    have l8:AW p (Ha [.box ba0 [va0_0,va0_1,va0_2,No a0.2.2.2] 60,.row Aaa 34 5 (([]:List Pv)).length ([]),.box b6 [.string ⟨((a0.1.getD a1.toNat Qq1).1).toArray⟩,No ((a0.1.getD a1.toNat Qq1).2.1),e4v2,No ((a0.1.getD a1.toNat Qq1).2.2.2.1),.bool ((a0.1.getD a1.toNat Qq1).2.2.2.2.1),No ((a0.1.getD a1.toNat Qq1).2.2.2.2.2.1),No ((a0.1.getD a1.toNat Qq1).2.2.2.2.2.2.1),No ((a0.1.getD a1.toNat Qq1).2.2.2.2.2.2.2.1),No ((a0.1.getD a1.toNat Qq1).2.2.2.2.2.2.2.2.1),No ((a0.1.getD a1.toNat Qq1).2.2.2.2.2.2.2.2.2.1),e4v10,e4v11] 50,.box b3 [No 0,No 0,Aaa,Aaa,Aaa] 34,.box b2 [Aac ba0] 56] O) sx:=l7.Bn [4] Z;have cn:=AJ [4] l7 l8 Z;refine Av h fun hy q1 h=>?_;have e341h2:=e341h2.mono (Ac (cm.trans cn));have e341h10:=e341h10.mono (Ac (cm.trans cn));have e341h11:=e341h11.mono (Ac (cm.trans cn));have e:=e.trans (Ac (cm.trans cn))
    refine BO (Ga (a0:=a0) (a1:=(a0.1.getD (((a0.1.getD a1.toNat Qq1).2.2.2.2.2.2.2.2.1).toNat) Qq1)) (O:=(Ha [.row Aaa 34 5 (([]:List Pv)).length ([]),.box b6 [.string ⟨((a0.1.getD a1.toNat Qq1).1).toArray⟩,No ((a0.1.getD a1.toNat Qq1).2.1),e4v2,No ((a0.1.getD a1.toNat Qq1).2.2.2.1),.bool ((a0.1.getD a1.toNat Qq1).2.2.2.2.1),No ((a0.1.getD a1.toNat Qq1).2.2.2.2.2.1),No ((a0.1.getD a1.toNat Qq1).2.2.2.2.2.2.1),No ((a0.1.getD a1.toNat Qq1).2.2.2.2.2.2.2.1),No ((a0.1.getD a1.toNat Qq1).2.2.2.2.2.2.2.2.1),No ((a0.1.getD a1.toNat Qq1).2.2.2.2.2.2.2.2.2.1),e4v10,e4v11] 50,.box b3 [No 0,No 0,Aaa,Aaa,Aaa] 34,.box b2 [Aac ba0] 56] O)) hH l8 (az.mono e) (a6.mono e) (a7.mono e) e341h2 e341h10 e341h11 q1) ?_;rintro _ uw ⟨pa,pb,pc,rfl,q2,hz,nx,ny,nz⟩;refine A1 1 Z<|A8 ?_;obtain⟨li,h⟩:=Bc h;have hT:=hT.trans (hv.trans (hx.trans (cm.trans (cn.trans hz))));have i7:=i7.mono (Ac (hx.trans (cm.trans (cn.trans hz))));have e:=e.trans (Ac hz)
    refine Bz ((List AaE)×(List Qq4)×Aae×Int×(List Pv)×Int×Value×Value×Value×Value×Qq5×Nat) (fun⟨d4,d5,d6,ct,bh,co,b8,b9,ca,bj,a9,n⟩=>[(2,(Aac b2)),(4,(Aac b3)),(5,(Aac b6)),(6,bj),(7,No co)]) (fun⟨d4,d5,d6,ct,bh,co,b8,b9,ca,bj,a9,n⟩ wr=>DE p (Ha [.box ba0 [b8,b9,ca,No ct] 60,.row bj 34 5 (bh).length a9,.box b6 [.string ⟨((a0.1.getD a1.toNat Qq1).1).toArray⟩,No ((a0.1.getD a1.toNat Qq1).2.1),e4v2,No ((a0.1.getD a1.toNat Qq1).2.2.2.1),.bool ((a0.1.getD a1.toNat Qq1).2.2.2.2.1),No ((a0.1.getD a1.toNat Qq1).2.2.2.2.2.1),No ((a0.1.getD a1.toNat Qq1).2.2.2.2.2.2.1),No ((a0.1.getD a1.toNat Qq1).2.2.2.2.2.2.2.1),No ((a0.1.getD a1.toNat Qq1).2.2.2.2.2.2.2.2.1),No ((a0.1.getD a1.toNat Qq1).2.2.2.2.2.2.2.2.2.1),e4v10,e4v11] 50,.box b3 [No 0,No 0,Aaa,Aaa,Aaa] 34,.box b2 [Aac ba0] 56] O) wr fun Oz=>AL AaK (gz H p wr Oz) b8 d4/\AL (.vec (.int .i64)) (gz H p wr Oz) b9 d5/\AL .byte (gz H p wr Oz) ca d6/\A5 .tree (gz H p wr Oz) bh a9/\AL .byte (gz H p wr Oz) e4v2 ((a0.1.getD a1.toNat Qq1).2.2.1)/\AL .st (gz H p wr Oz) e4v10 ((a0.1.getD a1.toNat Qq1).2.2.2.2.2.2.2.2.2.2.1)/\AL (.int .i64) (gz H p wr Oz) e4v11 ((a0.1.getD a1.toNat Qq1).2.2.2.2.2.2.2.2.2.2.2)/\Le (fz w (Ha [.box ba0 [va0_0,va0_1,va0_2,No a0.2.2.2] 60] O)) (fz wr Oz)/\FW (Dg a0 a1 self) n (d4,d5,d6,ct,bh,co)=some r) (fun⟨d4,d5,d6,ct,bh,co,b8,b9,ca,bj,a9,n⟩=>n) (hy.2.1,hy.2.2.1,hy.2.2.2.1,hy.2.2.2.2,([]:List Pv),hy.1,pa,pb,pc,Aaa,[],li) Z ⟨q2,nx,ny,nz,i7,(dg.mono e),(dh.mono e),(bt.mono e),hT,h⟩ ?_
    rintro⟨d4,d5,d6,ct,bh,co,b8,b9,ca,bj,a9,nn366⟩ l9 ⟨dt,kn,ko,kp,kq,io,ip,iq,hT,h⟩;obtain⟨li,ux,rfl,h,ma⟩:=Ba h;refine AM ?_;have ap:=dt.rG H;refine AI 2 Z<|AS h ?_ ?_<;>intro q3 h
    ·refine A4<|A2<|AM<|A8<|Az<|Ar 1 Z<|Ag (Ae 4 Z dt Z)<|Ag (Af Z Aak Z B4.e)<|Ag (Ae 2 Z dt Z)<|Av h fun d7 q4 h=>BO (hself (a0:=(d4,d5,d6,ct)) (a1:=((a0.1.getD a1.toNat Qq1).2.2.2.2.2.2.2.2.2.1)) (O:=(Ha [.row bj 34 5 (bh).length a9,.box b6 [.string ⟨((a0.1.getD a1.toNat Qq1).1).toArray⟩,No ((a0.1.getD a1.toNat Qq1).2.1),e4v2,No ((a0.1.getD a1.toNat Qq1).2.2.2.1),.bool ((a0.1.getD a1.toNat Qq1).2.2.2.2.1),No ((a0.1.getD a1.toNat Qq1).2.2.2.2.2.1),No ((a0.1.getD a1.toNat Qq1).2.2.2.2.2.2.1),No ((a0.1.getD a1.toNat Qq1).2.2.2.2.2.2.2.1),No ((a0.1.getD a1.toNat Qq1).2.2.2.2.2.2.2.2.1),No ((a0.1.getD a1.toNat Qq1).2.2.2.2.2.2.2.2.2.1),e4v10,e4v11] 50,.box b3 [No 0,No 0,Aaa,Aaa,Aaa] 34,.box b2 [Aac ba0] 56] O)) hH hU dt (kn.mono ap) (ko.mono ap) (kp.mono ap) q4) ?_;rintro _ uy ⟨tl,tm,tn,pd,pe,pf,rfl,q5,kr,n0,n1,n2,go,gp,gq⟩
     refine BV [d7.1] (r:=.tree) (fun _=>N8 _ _ _ _ _ _) q5 (.c5 (Go.E.Rp.Fa ⟨_,_,Z,Z,⟨_,_,Z,Z,⟨_,_,Z,⟨_,Z,n0⟩,⟨_,_,Z,⟨_,Z,n1⟩,⟨_,Z,n2⟩⟩⟩⟩⟩) .nil) fun uz u0 tw q6 c3 q7=>A3 h fun q8 h=>?_;have ap:=ap.trans (Ac (kr.trans c3));refine BL (r:=.tree) 1 bh [d7.1] Z Aa3 q6 Z (kq.mono ap) q7 q8 fun sy u1 q9 mb c4 ra=>Ar 1 Z<|AP<|A9<|A2 ?_;have cu:=mb.rG H;refine Az<|Ar 1 Z<|A3 h fun rb h=>Ag (AA rb)<|Ar 1 Z<|AP ?_;have h:=BW.again h ma;have hT:=hT.trans (kr.trans (c3.trans c4));have go:=go.mono (Ac (c3.trans c4));have gp:=gp.mono (Ac (c3.trans c4));have gq:=gq.mono (Ac (c3.trans c4));have ap:=ap.trans (Ac c4)
     refine AN (d7.2.1,d7.2.2.1,d7.2.2.2.1,d7.2.2.2.2,(bh++[d7.1]),(co - 1),pd,pe,pf,sy,q9,li) ⟨mb,(go.mono cu),(gp.mono cu),(gq.mono cu),(ra.mono cu),((io.mono ap).mono cu),((ip.mono ap).mono cu),((iq.mono ap).mono cu),hT,h⟩
    refine Bq<|AK<|AF ?_;have h:=BW.out h ma;refine Bj ?_;have jc:AW p (Ha [.box b3 [No 0,No 0,Aaa,Aaa,Aaa] 34,.box b2 [Aac ba0] 56,.box ba0 [b8,b9,ca,No ct] 60,.row bj 34 5 (bh).length a9,.box b6 [.string ⟨((a0.1.getD a1.toNat Qq1).1).toArray⟩,No ((a0.1.getD a1.toNat Qq1).2.1),e4v2,No ((a0.1.getD a1.toNat Qq1).2.2.2.1),.bool ((a0.1.getD a1.toNat Qq1).2.2.2.2.1),No ((a0.1.getD a1.toNat Qq1).2.2.2.2.2.1),No ((a0.1.getD a1.toNat Qq1).2.2.2.2.2.2.1),No ((a0.1.getD a1.toNat Qq1).2.2.2.2.2.2.2.1),No ((a0.1.getD a1.toNat Qq1).2.2.2.2.2.2.2.2.1),No ((a0.1.getD a1.toNat Qq1).2.2.2.2.2.2.2.2.2.1),e4v10,e4v11] 50] O) l9:=dt.Bn [4,4] Z;have ks:=AJ [4,4] dt jc Z
    have mc:AW p (Ha [.row bj 34 5 (bh).length a9,.box b6 [.string ⟨((a0.1.getD a1.toNat Qq1).1).toArray⟩,No ((a0.1.getD a1.toNat Qq1).2.1),e4v2,No ((a0.1.getD a1.toNat Qq1).2.2.2.1),.bool ((a0.1.getD a1.toNat Qq1).2.2.2.2.1),No ((a0.1.getD a1.toNat Qq1).2.2.2.2.2.1),No ((a0.1.getD a1.toNat Qq1).2.2.2.2.2.2.1),No ((a0.1.getD a1.toNat Qq1).2.2.2.2.2.2.2.1),No ((a0.1.getD a1.toNat Qq1).2.2.2.2.2.2.2.2.1),No ((a0.1.getD a1.toNat Qq1).2.2.2.2.2.2.2.2.2.1),e4v10,e4v11] 50,.box b3 [No 0,No 0,Aaa,Aaa,Aaa] 34,.box b2 [Aac ba0] 56,.box ba0 [b8,b9,ca,No ct] 60] O) l9:=jc.Bn [4,4] Z;have kt:=AJ [4,4] jc mc Z;have ap:=ap.trans (Ac (ks.trans kt));have hT:=hT.trans (ks.trans kt);refine AH (bh,d4,d5,d6,ct,bj,a9,b8,b9,ca) ⟨mc,(kq.mono ap),(io.mono ap),(ip.mono ap),(iq.mono ap),(kn.mono ap),(ko.mono ap),(kp.mono ap),hT,h⟩
   have hT:=hT.trans hv;rintro⟨hw,i8,i9,ja,jb,g1,e2,e3,e4,e5⟩ tx ⟨jd,pg,s7,s8,s9,ph,pi,pj,hT,h⟩;have du:=jd.rG H;refine B1 1 Z ?_;have rc:=jd.Dj hH (i:=0) Z (pg.mono du);have e6:=jd.AR (i:=0) Z;refine Av h fun u8 rd h=>Bv e6 (Kd _ _ (Ao e6) rc rd) ?_;rintro _ u9 ⟨pk,pl,pm,rfl,n3,n4,n5⟩ je re ku;have dv:=n3.Dj hH e6 je;have dw:=n4.Dj hH e6 je;have dx:=n5.mono (DN e6 je);refine A7 1 Z re Z (h1:=(BP Z (BP Z (BP dv.one (BP dw.one (BP dx.one Mx)))))) fun va md c6=>Al<|Au<|Ay<|Bp ?_
   cases h
   refine DO (.cell Z Aaz Z B5.e (Bo (i:=1) md Z)) ?_;have rf:=md.AR (i:=0) Z;have rg:=rf.AR (i:=0) Z;have rh:=rg.AR (i:=0) Z;have du:=du.trans (Ac ((Ah (i:=0) Z).trans (ku.trans (c6.trans ((Ah (i:=0) Z).trans ((Ah (i:=0) Z).trans (Ah (i:=0) Z)))))));have hT:=hT.trans ((Ah (i:=0) Z).trans (ku.trans (c6.trans ((Ah (i:=0) Z).trans ((Ah (i:=0) Z).trans (Ah (i:=0) Z))))));have dv:=dv.mono (Ac (c6.trans ((Ah (i:=0) Z).trans ((Ah (i:=0) Z).trans (Ah (i:=0) Z)))));have dw:=dw.mono (Ac (c6.trans ((Ah (i:=0) Z).trans ((Ah (i:=0) Z).trans (Ah (i:=0) Z)))));have dx:=dx.mono (Ac (c6.trans ((Ah (i:=0) Z).trans ((Ah (i:=0) Z).trans (Ah (i:=0) Z)))));exact⟨pk,pl,pm,e3,e4,e5,Z,rh,hT,dv,dw,dx,(ph.mono du),(pi.mono du),(pj.mono du)⟩
  refine AI 2 Z<|AS h ?_ ?_<;>intro ri h
  ·cases h
  refine AI 2 Z<|AS h ?_ ?_<;>intro rj h
  ·refine Aq<|Ag (Ae 2 Z av Z) ?_;have me:AW p (Ha [.box ba0 [va0_0,va0_1,va0_2,No a0.2.2.2] 60,.box b6 [.string ⟨((a0.1.getD a1.toNat Qq1).1).toArray⟩,No ((a0.1.getD a1.toNat Qq1).2.1),e4v2,No ((a0.1.getD a1.toNat Qq1).2.2.2.1),.bool ((a0.1.getD a1.toNat Qq1).2.2.2.2.1),No ((a0.1.getD a1.toNat Qq1).2.2.2.2.2.1),No ((a0.1.getD a1.toNat Qq1).2.2.2.2.2.2.1),No ((a0.1.getD a1.toNat Qq1).2.2.2.2.2.2.2.1),No ((a0.1.getD a1.toNat Qq1).2.2.2.2.2.2.2.2.1),No ((a0.1.getD a1.toNat Qq1).2.2.2.2.2.2.2.2.2.1),e4v10,e4v11] 50,.box b3 [No 0,No 0,Aaa,Aaa,Aaa] 34,.box b2 [Aac ba0] 56] O) it:=av.Bn [3] Z;have kv:=AJ [3] av me Z;refine Av h fun jf rk h=>?_;have e:=e.trans (Ac kv)
   refine BO (Jt (a0:=a0) (O:=(Ha [.box b6 [.string ⟨((a0.1.getD a1.toNat Qq1).1).toArray⟩,No ((a0.1.getD a1.toNat Qq1).2.1),e4v2,No ((a0.1.getD a1.toNat Qq1).2.2.2.1),.bool ((a0.1.getD a1.toNat Qq1).2.2.2.2.1),No ((a0.1.getD a1.toNat Qq1).2.2.2.2.2.1),No ((a0.1.getD a1.toNat Qq1).2.2.2.2.2.2.1),No ((a0.1.getD a1.toNat Qq1).2.2.2.2.2.2.2.1),No ((a0.1.getD a1.toNat Qq1).2.2.2.2.2.2.2.2.1),No ((a0.1.getD a1.toNat Qq1).2.2.2.2.2.2.2.2.2.1),e4v10,e4v11] 50,.box b3 [No 0,No 0,Aaa,Aaa,Aaa] 34,.box b2 [Aac ba0] 56] O)) hH me (az.mono e) (a6.mono e) (a7.mono e) rk) ?_;rintro _ vb ⟨rfl,rl,kw⟩;refine Ag (EA (G8 _))<|AZ B4.e Z rl fun vc lj rm kx _=>AY 0 Z Z Z rm Z Z fun sz jg ky=>Al<|Aq<|Ag (Af Z Aak Z E4.e)<|Ag (Ae 2 Z jg Z)<|Ar 1 Z ?_
   have mf:AW p (Ha [.box b2 [Aac ba0] 56,.box ba0 [va0_0,va0_1,va0_2,No a0.2.2.2] 60,.box lj [No (jf.toNat:Int)] 3,.box b6 [.string ⟨((a0.1.getD a1.toNat Qq1).1).toArray⟩,No ((a0.1.getD a1.toNat Qq1).2.1),e4v2,No ((a0.1.getD a1.toNat Qq1).2.2.2.1),.bool ((a0.1.getD a1.toNat Qq1).2.2.2.2.1),No ((a0.1.getD a1.toNat Qq1).2.2.2.2.2.1),No ((a0.1.getD a1.toNat Qq1).2.2.2.2.2.2.1),No ((a0.1.getD a1.toNat Qq1).2.2.2.2.2.2.2.1),No ((a0.1.getD a1.toNat Qq1).2.2.2.2.2.2.2.2.1),No ((a0.1.getD a1.toNat Qq1).2.2.2.2.2.2.2.2.2.1),e4v10,e4v11] 50,.box b3 [No 0,No 0,Aaa,Aaa,Aaa] 34] O) sz:=jg.Bn [1,4] Z;have kz:=AJ [1,4] jg mf Z;refine Av h fun pn rn h=>?_;have e:=e.trans (Ac (kw.trans (kx.trans (ky.trans kz))))
   refine BO (Ke (a0:=((a0.1.getD a1.toNat Qq1).2.2.2.2.2.2.2.2.2.2.2)) (a1_c0_0:=a0) (a1_c1:=(jf.toNat:Int)) (O:=(Ha [.box b6 [.string ⟨((a0.1.getD a1.toNat Qq1).1).toArray⟩,No ((a0.1.getD a1.toNat Qq1).2.1),e4v2,No ((a0.1.getD a1.toNat Qq1).2.2.2.1),.bool ((a0.1.getD a1.toNat Qq1).2.2.2.2.1),No ((a0.1.getD a1.toNat Qq1).2.2.2.2.2.1),No ((a0.1.getD a1.toNat Qq1).2.2.2.2.2.2.1),No ((a0.1.getD a1.toNat Qq1).2.2.2.2.2.2.2.1),No ((a0.1.getD a1.toNat Qq1).2.2.2.2.2.2.2.2.1),No ((a0.1.getD a1.toNat Qq1).2.2.2.2.2.2.2.2.2.1),e4v10,e4v11] 50,.box b3 [No 0,No 0,Aaa,Aaa,Aaa] 34] O)) hH mf (bt.mono e) (az.mono e) (a6.mono e) (a7.mono e) rn) ?_;rintro _ vd ⟨rfl,mg,k0⟩;refine A1 1 Z<|AM<|AI 2 Z<|AS h ?_ ?_<;>intro ro h
   ·cases h
   refine A4<|A2<|CI (.q 0 (Qqz 2 6 (.h 1 (.tail 8)))) mixed V (fun ve mh=>?_);have dy:=mg.call mh;have k1:=Bd mg mh;refine BJ 1 Z<|B9 Z (Ae 0 Z dy Z) Z<|B9 Z (Af Z Aak Z E4.e) Z<|B9 Z (Ae 3 Z dy Z) Z<|BJ 1 Z<|A3 h fun mi h=>?_;have e:=e.trans (Ac (k0.trans k1));refine Fl Z Z Z Aam (bt.mono e) pn.toNat (CT mi) (AD mi) Z ?_;rintro vf _ rfl rp;refine B9 Z (AX rp (Ao dy)) Z<|Av h fun s0 rq h=>IQ Z Z Z (fun s1 g2=>Lv _ _ (Ao (dy.call g2)) rq) ?_;rintro s1 _ vg g2 e7 ⟨tp,tq,tr,rfl,n6,n7,n8⟩;have e8:=dy.call g2;have k2:=Bd dy g2;have mj:=e8.call e7;have k3:=Bd e8 e7;have gr:=n6.Dj hH e8 e7;have gs:=n7.Dj hH e8 e7;have gt:=n8.Dj hH e8 e7;refine B8 (fun s2 mk=>?_);have ml:=mj.call mk;have c7:=Bd mj mk
   have mm:AW p (Ha [.box ba0 [va0_0,va0_1,va0_2,No a0.2.2.2] 60,.box b2 [Aac ba0] 56,.box lj [No (jf.toNat:Int)] 3,.box b6 [.string ⟨((a0.1.getD a1.toNat Qq1).1).toArray⟩,No ((a0.1.getD a1.toNat Qq1).2.1),e4v2,No ((a0.1.getD a1.toNat Qq1).2.2.2.1),.bool ((a0.1.getD a1.toNat Qq1).2.2.2.2.1),No ((a0.1.getD a1.toNat Qq1).2.2.2.2.2.1),No ((a0.1.getD a1.toNat Qq1).2.2.2.2.2.2.1),No ((a0.1.getD a1.toNat Qq1).2.2.2.2.2.2.2.1),No ((a0.1.getD a1.toNat Qq1).2.2.2.2.2.2.2.2.1),No ((a0.1.getD a1.toNat Qq1).2.2.2.2.2.2.2.2.2.1),e4v10,e4v11] 50,.box b3 [No 0,No 0,Aaa,Aaa,Aaa] 34] O) s2:=ml.Bn [1] Z;have c8:=AJ [1] ml mm Z;refine Av h fun s3 rr h=>?_;have e:=e.trans (Ac (k2.trans (k3.trans (c7.trans c8))))
   refine BO (hself (a0:=a0) (a1:=(((a0.1.getD a1.toNat Qq1).2.2.2.2.2.2.2.2.2.2.2).getD pn.toNat Qq1)) (O:=(Ha [.box b2 [Aac ba0] 56,.box lj [No (jf.toNat:Int)] 3,.box b6 [.string ⟨((a0.1.getD a1.toNat Qq1).1).toArray⟩,No ((a0.1.getD a1.toNat Qq1).2.1),e4v2,No ((a0.1.getD a1.toNat Qq1).2.2.2.1),.bool ((a0.1.getD a1.toNat Qq1).2.2.2.2.1),No ((a0.1.getD a1.toNat Qq1).2.2.2.2.2.1),No ((a0.1.getD a1.toNat Qq1).2.2.2.2.2.2.1),No ((a0.1.getD a1.toNat Qq1).2.2.2.2.2.2.2.1),No ((a0.1.getD a1.toNat Qq1).2.2.2.2.2.2.2.2.1),No ((a0.1.getD a1.toNat Qq1).2.2.2.2.2.2.2.2.2.1),e4v10,e4v11] 50,.box b3 [No 0,No 0,Aaa,Aaa,Aaa] 34] O)) hH hU mm (az.mono e) (a6.mono e) (a7.mono e) rr) ?_;rintro _ vh ⟨ts,tt,tu,po,pp,pq,rfl,rs,e9,n9,oa,ob,gu,gv,gw⟩;have gr:=gr.mono (Ac (c7.trans (c8.trans e9)));have gs:=gs.mono (Ac (c7.trans (c8.trans e9)));have gt:=gt.mono (Ac (c7.trans (c8.trans e9)))
   refine BV [s0,s3.1] (r:=.tree) (fun _=>W6 _ _ _ _ _ _ _ _ _ _ _) (hlen:=(Ch 2)) rs (.c5 (Go.E.Rp.Fa ⟨_,_,Z,Z,⟨_,_,Z,Z,⟨_,_,Z,⟨_,Z,gr⟩,⟨_,_,Z,⟨_,Z,gs⟩,⟨_,Z,gt⟩⟩⟩⟩⟩) (.c5 (Go.E.Rp.Fa ⟨_,_,Z,Z,⟨_,_,Z,Z,⟨_,_,Z,⟨_,Z,n9⟩,⟨_,_,Z,⟨_,Z,oa⟩,⟨_,Z,ob⟩⟩⟩⟩⟩) .nil)) fun vi vj ty fa fb rt=>Av h fun vk ru h=>Bv fa (Kd _ _ (Ao fa) rt ru) ?_;rintro _ vl ⟨pr,ps,pt,rfl,oc,od,oe⟩ jh rv fc;have dz:=oc.Dj hH fa jh;have d0:=od.Dj hH fa jh;have d1:=oe.mono (DN fa jh);refine A7 4 Z rv Z (h1:=(BP Z (BP Z (BP dz.one (BP d0.one (BP d1.one Mx)))))) fun vm mn bw=>Al<|Au<|Ay<|Bp ?_
   cases h
   refine DO (.cell Z Aaz Z B5.e (Bo (i:=4) mn Z)) ?_;have rx:=mn.AR (i:=1) Z;have ry:=rx.AR (i:=1) Z;have rz:=ry.AR (i:=1) Z;have r0:=rz.AR (i:=1) Z;have hT:=hT.trans (kv.trans (kw.trans (kx.trans (ky.trans (kz.trans (k0.trans (k1.trans (k2.trans (k3.trans (c7.trans (c8.trans (e9.trans (fb.trans (fc.trans (bw.trans ((Ah (i:=1) Z).trans ((Ah (i:=1) Z).trans ((Ah (i:=1) Z).trans (Ah (i:=1) Z)))))))))))))))))));have gu:=gu.mono (Ac (fb.trans (fc.trans (bw.trans ((Ah (i:=1) Z).trans ((Ah (i:=1) Z).trans ((Ah (i:=1) Z).trans (Ah (i:=1) Z))))))));have gv:=gv.mono (Ac (fb.trans (fc.trans (bw.trans ((Ah (i:=1) Z).trans ((Ah (i:=1) Z).trans ((Ah (i:=1) Z).trans (Ah (i:=1) Z))))))));have gw:=gw.mono (Ac (fb.trans (fc.trans (bw.trans ((Ah (i:=1) Z).trans ((Ah (i:=1) Z).trans ((Ah (i:=1) Z).trans (Ah (i:=1) Z))))))));have dz:=dz.mono (Ac (bw.trans ((Ah (i:=1) Z).trans ((Ah (i:=1) Z).trans ((Ah (i:=1) Z).trans (Ah (i:=1) Z))))))
   have d0:=d0.mono (Ac (bw.trans ((Ah (i:=1) Z).trans ((Ah (i:=1) Z).trans ((Ah (i:=1) Z).trans (Ah (i:=1) Z))))));have d1:=d1.mono (Ac (bw.trans ((Ah (i:=1) Z).trans ((Ah (i:=1) Z).trans ((Ah (i:=1) Z).trans (Ah (i:=1) Z))))));exact⟨pr,ps,pt,po,pp,pq,Z,r0,hT,dz,d0,d1,gu,gv,gw⟩
  refine A4<|A9<|AH (a0.1,a0.2.1,a0.2.2.1,va0_0,va0_1,va0_2) ⟨av,(dg.mono e),(dh.mono e),(bt.mono e),(az.mono e),(a6.mono e),(a7.mono e),hT,h⟩
 have hT:=hT.trans (gc.trans (gd.trans (a4.trans a5)));rintro⟨hf,hg,hh,em,en,eo⟩ tz ⟨mo,og,oh,ir,pu,pv,pw,hT,h⟩;have ba:=mo.rG H;refine Aq<|Ag (B7 (fun _=>Wu _ _))<|AZ B5.e Z mo fun vn ao r1 h0 _=>A7 0 Z r1 Z fun vo mp h1=>Al ?_
 refine Bm ((List AaE)×(List Qq4)×Aae×Int×(List Aae)×(List Pv)×Value×Value×Value×Value×Qq5×Value×Qq5) (fun⟨ji,jj,jk,jl,h2,h3,fd,fe,ff,fg,fh,fi,fj⟩=>[(4,(Aac b3)),(11,(Aac ao))]) (fun⟨ji,jj,jk,jl,h2,h3,fd,fe,ff,fg,fh,fi,fj⟩ wr=>DE p (Ha [.row fi 34 5 (h3).length fj,.row fg 9 1 (h2).length fh,.box ao [No 4,No 0,Aaa,fg,fi] 34,.box b6 [.string ⟨((a0.1.getD a1.toNat Qq1).1).toArray⟩,No ((a0.1.getD a1.toNat Qq1).2.1),e4v2,No ((a0.1.getD a1.toNat Qq1).2.2.2.1),.bool ((a0.1.getD a1.toNat Qq1).2.2.2.2.1),No ((a0.1.getD a1.toNat Qq1).2.2.2.2.2.1),No ((a0.1.getD a1.toNat Qq1).2.2.2.2.2.2.1),No ((a0.1.getD a1.toNat Qq1).2.2.2.2.2.2.2.1),No ((a0.1.getD a1.toNat Qq1).2.2.2.2.2.2.2.2.1),No ((a0.1.getD a1.toNat Qq1).2.2.2.2.2.2.2.2.2.1),e4v10,e4v11] 50,.box b3 [No 0,No 0,Aaa,Aaa,Aaa] 34,.box b2 [Aac ba0] 56,.box ba0 [fd,fe,ff,No jl] 60] O) wr fun Oz=>A5 .tree (gz H p wr Oz) h3 fj/\A5 .st (gz H p wr Oz) h2 fh/\AL .byte (gz H p wr Oz) e4v2 ((a0.1.getD a1.toNat Qq1).2.2.1)/\AL .st (gz H p wr Oz) e4v10 ((a0.1.getD a1.toNat Qq1).2.2.2.2.2.2.2.2.2.2.1)/\AL (.int .i64) (gz H p wr Oz) e4v11 ((a0.1.getD a1.toNat Qq1).2.2.2.2.2.2.2.2.2.2.2)/\AL AaK (gz H p wr Oz) fd ji/\AL (.vec (.int .i64)) (gz H p wr Oz) fe jj/\AL .byte (gz H p wr Oz) ff jk/\Le (fz w (Ha [.box ba0 [va0_0,va0_1,va0_2,No a0.2.2.2] 60] O)) (fz wr Oz)/\EK ji jj jk jl h2 h3=some r) ?_ ?_
 ·refine Aq<|Ag (Af Z Aak Z E4.e)<|Ag (Ae 1 Z mp Z) ?_;have ba:=ba.trans (Ac (h0.trans h1));refine Ag (AT (ir.mono ba))<|A1 1 Z<|A8 ?_;obtain⟨r2,k4,jm⟩:=CF .st H 9 mp;obtain⟨r3,h4,r4⟩:=CF .tree H 34 r2;obtain⟨c9,h⟩:=Bc h;have hT:=hT.trans (h0.trans (h1.trans (k4.trans h4)));have ba:=ba.trans (Ac (k4.trans h4));have jm:=jm.mono (Ac h4)
  refine Bz ((List AaE)×(List Qq4)×Aae×Int×(List Aae)×(List Pv)×Int×Value×Value×Value×Value×Qq5×Value×Qq5×Nat) (fun⟨d8,d9,ea,da,y,aa,b,cv,cw,cx,aq,ax,ar,ay,n⟩=>[(2,(Aac b2)),(4,(Aac b3)),(5,(Aac b6)),(11,(Aac ao)),(147,e4v11),(148,No (((a0.1.getD a1.toNat Qq1).2.2.2.2.2.2.2.2.2.2.2).length:Int)),(149,No b)]) (fun⟨d8,d9,ea,da,y,aa,b,cv,cw,cx,aq,ax,ar,ay,n⟩ wr=>DE p (Ha [.row ar 34 5 (aa).length ay,.row aq 9 1 (y).length ax,.box ao [No 4,No 0,Aaa,aq,ar] 34,.box b6 [.string ⟨((a0.1.getD a1.toNat Qq1).1).toArray⟩,No ((a0.1.getD a1.toNat Qq1).2.1),e4v2,No ((a0.1.getD a1.toNat Qq1).2.2.2.1),.bool ((a0.1.getD a1.toNat Qq1).2.2.2.2.1),No ((a0.1.getD a1.toNat Qq1).2.2.2.2.2.1),No ((a0.1.getD a1.toNat Qq1).2.2.2.2.2.2.1),No ((a0.1.getD a1.toNat Qq1).2.2.2.2.2.2.2.1),No ((a0.1.getD a1.toNat Qq1).2.2.2.2.2.2.2.2.1),No ((a0.1.getD a1.toNat Qq1).2.2.2.2.2.2.2.2.2.1),e4v10,e4v11] 50,.box b3 [No 0,No 0,Aaa,Aaa,Aaa] 34,.box b2 [Aac ba0] 56,.box ba0 [cv,cw,cx,No da] 60] O) wr fun Oz=>AL (.int .i64) (gz H p wr Oz) e4v11 ((a0.1.getD a1.toNat Qq1).2.2.2.2.2.2.2.2.2.2.2)/\A5 .tree (gz H p wr Oz) aa ay/\A5 .st (gz H p wr Oz) y ax/\AL .byte (gz H p wr Oz) e4v2 ((a0.1.getD a1.toNat Qq1).2.2.1)/\AL .st (gz H p wr Oz) e4v10 ((a0.1.getD a1.toNat Qq1).2.2.2.2.2.2.2.2.2.2.1)/\AL AaK (gz H p wr Oz) cv d8/\AL (.vec (.int .i64)) (gz H p wr Oz) cw d9/\AL .byte (gz H p wr Oz) cx ea/\Le (fz w (Ha [.box ba0 [va0_0,va0_1,va0_2,No a0.2.2.2] 60] O)) (fz wr Oz)/\FW (Cz a0 a1 self) n (d8,d9,ea,da,y,aa,b)=some r) (fun⟨d8,d9,ea,da,y,aa,b,cv,cw,cx,aq,ax,ar,ay,n⟩=>n) (hf,hg,hh,a0.2.2.2,([]:List Aae),([]:List Pv),0,em,en,eo,Aaa,[],Aaa,[],c9) Z ⟨r3,(ir.mono ba),r4,jm,(og.mono ba),(oh.mono ba),(pu.mono ba),(pv.mono ba),(pw.mono ba),hT,h⟩ ?_
  rintro⟨d8,d9,ea,da,y,aa,b,cv,cw,cx,aq,ax,ar,ay,nn726⟩ r5 ⟨d2,a8,bx,bz,bd,a2,k5,k6,k7,hT,h⟩;obtain⟨c9,vp,rfl,h,cy⟩:=Ba h;have g:=d2.rG H;refine AI 1 Z<|AM<|AS h ?_ ?_<;>intro r6 h
  ·refine A4<|A2<|AM<|A8<|B1 1 Z<|A3 h fun mq h=>Bf (a8.mono g) b.toNat (CT mq) (AD mq) ?_;rintro vq _ rfl r7;refine Ag (AX r7 (Ao d2))<|A1 2 Z<|Aq<|Ag (Ae 5 Z d2 Z)<|Ar 1 Z ?_;have mr:AW p (Ha [.box ba0 [cv,cw,cx,No da] 60,.row ar 34 5 (aa).length ay,.row aq 9 1 (y).length ax,.box ao [No 4,No 0,Aaa,aq,ar] 34,.box b6 [.string ⟨((a0.1.getD a1.toNat Qq1).1).toArray⟩,No ((a0.1.getD a1.toNat Qq1).2.1),e4v2,No ((a0.1.getD a1.toNat Qq1).2.2.2.1),.bool ((a0.1.getD a1.toNat Qq1).2.2.2.2.1),No ((a0.1.getD a1.toNat Qq1).2.2.2.2.2.1),No ((a0.1.getD a1.toNat Qq1).2.2.2.2.2.2.1),No ((a0.1.getD a1.toNat Qq1).2.2.2.2.2.2.2.1),No ((a0.1.getD a1.toNat Qq1).2.2.2.2.2.2.2.2.1),No ((a0.1.getD a1.toNat Qq1).2.2.2.2.2.2.2.2.2.1),e4v10,e4v11] 50,.box b3 [No 0,No 0,Aaa,Aaa,Aaa] 34,.box b2 [Aac ba0] 56] O) r5:=d2.Bn [6] Z;have b0:=AJ [6] d2 mr Z;refine Av h fun d r8 h=>?_
   have g:=g.trans (Ac b0);refine BO (hself (a0:=(d8,d9,ea,da)) (a1:=(((a0.1.getD a1.toNat Qq1).2.2.2.2.2.2.2.2.2.2.2).getD b.toNat Qq1)) (O:=(Ha [.row ar 34 5 (aa).length ay,.row aq 9 1 (y).length ax,.box ao [No 4,No 0,Aaa,aq,ar] 34,.box b6 [.string ⟨((a0.1.getD a1.toNat Qq1).1).toArray⟩,No ((a0.1.getD a1.toNat Qq1).2.1),e4v2,No ((a0.1.getD a1.toNat Qq1).2.2.2.1),.bool ((a0.1.getD a1.toNat Qq1).2.2.2.2.1),No ((a0.1.getD a1.toNat Qq1).2.2.2.2.2.1),No ((a0.1.getD a1.toNat Qq1).2.2.2.2.2.2.1),No ((a0.1.getD a1.toNat Qq1).2.2.2.2.2.2.2.1),No ((a0.1.getD a1.toNat Qq1).2.2.2.2.2.2.2.2.1),No ((a0.1.getD a1.toNat Qq1).2.2.2.2.2.2.2.2.2.1),e4v10,e4v11] 50,.box b3 [No 0,No 0,Aaa,Aaa,Aaa] 34,.box b2 [Aac ba0] 56] O)) hH hU mr (k5.mono g) (k6.mono g) (k7.mono g) r8) ?_;rintro _ vr ⟨k8,k9,la,s,u,x,rfl,r9,b1,ai,aj,ak,ac,ad,ae⟩;refine AZ B5.e Z r9 fun vs px sa k _=>A7 0 Z sa Z (h1:=(BP Z (BP Z (BP ai.one (BP aj.one (BP ak.one Mx)))))) ?_;intro lk d3 o
   refine Al ?_;have c:=d3.rG H;refine Aq<|Ag (Af Z Aak Z Cx.e)<|Ag (Ae 5 Z d3 Z)<|Ar 1 Z<|A3 h fun ms h=>?_;have g:=g.trans (Ac (b1.trans (k.trans o)));refine Bf ((a2.mono g).mono c) b.toNat (CT ms) (AD ms) ?_;rintro vt _ rfl sb;refine Ag (AX sb (Ao d3))<|Ag (NN Z Z)<|Al<|DP h ?_ ?_<;>intro sc h
   ·refine Ek (D6 (OI (LG (D6 (IB Gy))))) (fun z0 z=>Le (gz H p z0 (Ha [.box px [No d.1.f.1,No d.1.f.2.1,k8,k9,la] 34,.box ba0 [s,u,x,No d.2.2.2.2] 60,.row ar 34 5 (aa).length ay,.row aq 9 1 (y).length ax,.box ao [No 4,No 0,Aaa,aq,ar] 34,.box b6 [.string ⟨((a0.1.getD a1.toNat Qq1).1).toArray⟩,No ((a0.1.getD a1.toNat Qq1).2.1),e4v2,No ((a0.1.getD a1.toNat Qq1).2.2.2.1),.bool ((a0.1.getD a1.toNat Qq1).2.2.2.2.1),No ((a0.1.getD a1.toNat Qq1).2.2.2.2.2.1),No ((a0.1.getD a1.toNat Qq1).2.2.2.2.2.2.1),No ((a0.1.getD a1.toNat Qq1).2.2.2.2.2.2.2.1),No ((a0.1.getD a1.toNat Qq1).2.2.2.2.2.2.2.2.1),No ((a0.1.getD a1.toNat Qq1).2.2.2.2.2.2.2.2.2.1),e4v10,e4v11] 50,.box b3 [No 0,No 0,Aaa,Aaa,Aaa] 34,.box b2 [Aac ba0] 56] O)) (hp z)/\z.heap[px]? = some (.cells [No d.1.f.1,No d.1.f.2.1,k8,k9,la].toArray 34 (0,0))/\z.heap[ba0]? = some (.cells [s,u,x,No d.2.2.2.2].toArray 60 (0,0))/\z.heap[ao]? = some (.cells [No 4,No 0,Aaa,aq,ar].toArray 34 (0,0))/\z.heap[b6]? = some (.cells [.string ⟨((a0.1.getD a1.toNat Qq1).1).toArray⟩,No ((a0.1.getD a1.toNat Qq1).2.1),e4v2,No ((a0.1.getD a1.toNat Qq1).2.2.2.1),.bool ((a0.1.getD a1.toNat Qq1).2.2.2.2.1),No ((a0.1.getD a1.toNat Qq1).2.2.2.2.2.1),No ((a0.1.getD a1.toNat Qq1).2.2.2.2.2.2.1),No ((a0.1.getD a1.toNat Qq1).2.2.2.2.2.2.2.1),No ((a0.1.getD a1.toNat Qq1).2.2.2.2.2.2.2.2.1),No ((a0.1.getD a1.toNat Qq1).2.2.2.2.2.2.2.2.2.1),e4v10,e4v11].toArray 50 (0,0))/\z.heap[b3]? = some (.cells [No 0,No 0,Aaa,Aaa,Aaa].toArray 34 (0,0))/\z.heap[b2]? = some (.cells [Aac ba0].toArray 56 (0,0))) mixed Z (fun a3 vu mt=>?_)
    have ab:=d3.call mt;have b4:=Bd d3 mt;have a:=ab.rG H;refine Gz ⟨a.trans (Ao ab),ab.at (i:=0) Z,ab.at (i:=1) Z,ab.at (i:=4) Z,ab.at (i:=5) Z,ab.at (i:=6) Z,ab.at (i:=7) Z⟩ fun kI748=>Aw 0 a3 kI748 Z (fun _ _=>Af Z Aaz Z Cx.e) Z<|Aw 1 a3 kI748 Z (fun _ hI=>EB Z hI.2.2.2.1 Z) Z<|Aw 2 a3 kI748 Z (fun _ _=>Af Z Aak Z Cx.e) Z<|Aw 3 a3 kI748 Z (fun _ hI=>EB Z hI.2.2.2.2.1 Z) Z<|Aw 4 a3 kI748 Z (fun _ _=>Ad Z) Z<|Aw 9 a3 kI748 Z (fun _ _=>Af Z Aaz Z Ig.e) Z<|Aw 10 a3 kI748 Z (fun _ hI=>EB Z hI.2.2.2.1 Z) Z<|Aw 11 a3 kI748 Z (fun _ hI=>Ku hI.2.1) Z<|Q3 5 12 Z Z ?_ ?_
    ·refine A3 h fun fk h=>?_;have c:=c.trans (Ac b4);refine Bf (((a2.mono g).mono c).mono a) b.toNat (CT fk) (AD fk) ?_;rintro vv _ rfl g3;refine AB ⟨a.trans (Ao ab),ab.at (i:=0) Z,ab.at (i:=1) Z,ab.at (i:=4) Z,ab.at (i:=5) Z,ab.at (i:=6) Z,ab.at (i:=7) Z⟩ fun kI751=>Q3 6 12 Z Z ?_ ?_
     ·refine Ag (AX g3 (Ao ab))<|AB ⟨a.trans (Ao ab),ab.at (i:=0) Z,ab.at (i:=1) Z,ab.at (i:=4) Z,ab.at (i:=5) Z,ab.at (i:=6) Z,ab.at (i:=7) Z⟩ fun kI752=>Q3 7 12 Z Z ?_ ?_
      ·refine BV [((a0.1.getD a1.toNat Qq1).2.2.2.2.2.2.2.2.2.2.1).getD b.toNat Qq1] (r:=.st) (fun _=>M7 _ Z _) ab (.c1 Z .nil) ?_;intro vw vx t0 bk h5 g4;have a:=a.trans (Ac h5);refine AB ⟨a.trans (Ao bk),bk.at (i:=0) Z,bk.at (i:=1) Z,bk.at (i:=4) Z,bk.at (i:=5) Z,bk.at (i:=6) Z,bk.at (i:=7) Z⟩ fun kI754=>Q3 8 12 Z Z ?_ ?_
       ·refine A3 h fun bl h=>BL (r:=.st) 3 y [((a0.1.getD a1.toNat Qq1).2.2.2.2.2.2.2.2.2.2.1).getD b.toNat Qq1] Z Aan bk Z (((bz.mono g).mono c).mono a) g4 bl ?_;intro eb vy g5 cb lb jn;have a:=a.trans (Ac lb);refine AB ⟨a.trans (Ao cb),cb.at (i:=0) Z,cb.at (i:=1) Z,cb.at (i:=4) Z,cb.at (i:=5) Z,cb.at (i:=6) Z,cb.at (i:=7) Z⟩ fun kI757=>Aw 14 a3 kI757 Z (fun _ _=>Af Z Aaz Z Cx.e) Z<|CK 12 Z ?_;have ai:=ai.mono (Ac (k.trans o));have aj:=aj.mono (Ac (k.trans o));have ak:=ak.mono (Ac (k.trans o));refine BV [d.1] (r:=.tree) (fun _=>N8 _ _ _ _ _ _) cb (.c5 (Go.E.Rp.Fa ⟨_,_,Z,Z,⟨_,_,Z,Z,⟨_,_,Z,⟨_,Z,((ai.mono c).mono a)⟩,⟨_,_,Z,⟨_,Z,((aj.mono c).mono a)⟩,⟨_,Z,((ak.mono c).mono a)⟩⟩⟩⟩⟩) .nil) ?_;intro vz v0 t1 cc h6 sd;have a:=a.trans (Ac h6)
        refine AB ⟨a.trans (Ao cc),cc.at (i:=0) Z,cc.at (i:=1) Z,cc.at (i:=4) Z,cc.at (i:=5) Z,cc.at (i:=6) Z,cc.at (i:=7) Z⟩ fun kI759=>CK 13 Z<|A3 h fun bm h=>BL (r:=.tree) 2 aa [d.1] Z Aa3 cc Z (((bx.mono g).mono c).mono a) sd bm ?_;intro ec v1 g6 bn h7 jo;have a:=a.trans (Ac h7);refine AB ⟨a.trans (Ao bn),bn.at (i:=0) Z,bn.at (i:=1) Z,bn.at (i:=4) Z,bn.at (i:=5) Z,bn.at (i:=6) Z,bn.at (i:=7) Z⟩ fun kI762=>CK 15 Z<|AY 4 Z Z (row_one (bn.at (i:=3) Z)) bn Z Z fun v2 mu fl=>H5 [0,1,2,3,4,5,6,7,8,9,10,11,12,13,14]<|CK 16 Z<|Ag (Af Z Aaz Z Ig.e)<|H5 [0,1,2,3,4,5,6,7,8,9,10,11,12,13,14,15]<|CK 17 Z<|AY 4 Z Z (row_one (mu.at (i:=2) Z)) mu Z Z fun ll se fm=>En<|Cq<|A9<|A2<|Az<|A3 h fun bo h=>?_
        refine Ag (AA bo)<|Ar 1 Z<|AP ?_;have mv:=se.AR (i:=0) Z;have jp:AW p (Ha [.box b3 [No 0,No 0,Aaa,Aaa,Aaa] 34,.box b2 [Aac ba0] 56,.box ba0 [s,u,x,No d.2.2.2.2] 60,.row ec 34 5 ((aa++[d.1])).length g6,.row eb 9 1 ((y++[((a0.1.getD a1.toNat Qq1).2.2.2.2.2.2.2.2.2.2.1).getD b.toNat Qq1])).length g5,.box ao [No 4,No 0,Aaa,eb,ec] 34,.box b6 [.string ⟨((a0.1.getD a1.toNat Qq1).1).toArray⟩,No ((a0.1.getD a1.toNat Qq1).2.1),e4v2,No ((a0.1.getD a1.toNat Qq1).2.2.2.1),.bool ((a0.1.getD a1.toNat Qq1).2.2.2.2.1),No ((a0.1.getD a1.toNat Qq1).2.2.2.2.2.1),No ((a0.1.getD a1.toNat Qq1).2.2.2.2.2.2.1),No ((a0.1.getD a1.toNat Qq1).2.2.2.2.2.2.2.1),No ((a0.1.getD a1.toNat Qq1).2.2.2.2.2.2.2.2.1),No ((a0.1.getD a1.toNat Qq1).2.2.2.2.2.2.2.2.2.1),e4v10,e4v11] 50] O) ll:=mv.Bn [6,6] Z;have fn:=AJ [6,6] mv jp Z
        have jq:AW p (Ha [.box ao [No 4,No 0,Aaa,eb,ec] 34,.box b6 [.string ⟨((a0.1.getD a1.toNat Qq1).1).toArray⟩,No ((a0.1.getD a1.toNat Qq1).2.1),e4v2,No ((a0.1.getD a1.toNat Qq1).2.2.2.1),.bool ((a0.1.getD a1.toNat Qq1).2.2.2.2.1),No ((a0.1.getD a1.toNat Qq1).2.2.2.2.2.1),No ((a0.1.getD a1.toNat Qq1).2.2.2.2.2.2.1),No ((a0.1.getD a1.toNat Qq1).2.2.2.2.2.2.2.1),No ((a0.1.getD a1.toNat Qq1).2.2.2.2.2.2.2.2.1),No ((a0.1.getD a1.toNat Qq1).2.2.2.2.2.2.2.2.2.1),e4v10,e4v11] 50,.box b3 [No 0,No 0,Aaa,Aaa,Aaa] 34,.box b2 [Aac ba0] 56,.box ba0 [s,u,x,No d.2.2.2.2] 60,.row ec 34 5 ((aa++[d.1])).length g6,.row eb 9 1 ((y++[((a0.1.getD a1.toNat Qq1).2.2.2.2.2.2.2.2.2.2.1).getD b.toNat Qq1])).length g5] O) ll:=jp.Bn [6,6] Z;have fo:=AJ [6,6] jp jq Z
        have mw:AW p (Ha [.row ec 34 5 ((aa++[d.1])).length g6,.row eb 9 1 ((y++[((a0.1.getD a1.toNat Qq1).2.2.2.2.2.2.2.2.2.2.1).getD b.toNat Qq1])).length g5,.box ao [No 4,No 0,Aaa,eb,ec] 34,.box b6 [.string ⟨((a0.1.getD a1.toNat Qq1).1).toArray⟩,No ((a0.1.getD a1.toNat Qq1).2.1),e4v2,No ((a0.1.getD a1.toNat Qq1).2.2.2.1),.bool ((a0.1.getD a1.toNat Qq1).2.2.2.2.1),No ((a0.1.getD a1.toNat Qq1).2.2.2.2.2.1),No ((a0.1.getD a1.toNat Qq1).2.2.2.2.2.2.1),No ((a0.1.getD a1.toNat Qq1).2.2.2.2.2.2.2.1),No ((a0.1.getD a1.toNat Qq1).2.2.2.2.2.2.2.2.1),No ((a0.1.getD a1.toNat Qq1).2.2.2.2.2.2.2.2.2.1),e4v10,e4v11] 50,.box b3 [No 0,No 0,Aaa,Aaa,Aaa] 34,.box b2 [Aac ba0] 56,.box ba0 [s,u,x,No d.2.2.2.2] 60] O) ll:=jq.Bn [6,6] Z;have fp:=AJ [6,6] jq mw Z;have h:=BW.again h cy;have hT:=hT.trans (b0.trans (b1.trans (k.trans (o.trans (b4.trans (h5.trans (lb.trans (h6.trans (h7.trans (fl.trans (fm.trans ((Ah (i:=0) Z).trans (fn.trans (fo.trans fp))))))))))))));have ac:=ac.mono (Ac (k.trans o))
        have ad:=ad.mono (Ac (k.trans o));have ae:=ae.mono (Ac (k.trans o));have jn:=jn.mono (Ac (h6.trans (h7.trans (fl.trans (fm.trans ((Ah (i:=0) Z).trans (fn.trans (fo.trans fp))))))));have jo:=jo.mono (Ac (fl.trans (fm.trans ((Ah (i:=0) Z).trans (fn.trans (fo.trans fp))))));have a:=a.trans (Ac (fl.trans (fm.trans ((Ah (i:=0) Z).trans (fn.trans (fo.trans fp))))));refine AN (d.2.1,d.2.2.1,d.2.2.2.1,d.2.2.2.2,(y++[((a0.1.getD a1.toNat Qq1).2.2.2.2.2.2.2.2.2.2.1).getD b.toNat Qq1]),(aa++[d.1]),(b+1),s,u,x,eb,g5,ec,g6,c9) ⟨mw,(((a8.mono g).mono c).mono a),jo,jn,(((bd.mono g).mono c).mono a),(((a2.mono g).mono c).mono a),((ac.mono c).mono a),((ad.mono c).mono a),((ae.mono c).mono a),hT,h⟩
       refine A3 h fun bl h=>A3 h fun bm h=>A3 h fun bo h=>?_;have ai:=ai.mono (Ac (k.trans o));have aj:=aj.mono (Ac (k.trans o));have ak:=ak.mono (Ac (k.trans o));refine BV [d.1] (r:=.tree) (fun _=>N8 _ _ _ _ _ _) bk (.c5 (Go.E.Rp.Fa ⟨_,_,Z,Z,⟨_,_,Z,Z,⟨_,_,Z,⟨_,Z,((ai.mono c).mono a)⟩,⟨_,_,Z,⟨_,Z,((aj.mono c).mono a)⟩,⟨_,Z,((ak.mono c).mono a)⟩⟩⟩⟩⟩) .nil) ?_;intro v3 v4 t2 cd h8 jr;have a:=a.trans (Ac h8);refine AB ⟨a.trans (Ao cd),cd.at (i:=0) Z,cd.at (i:=1) Z,cd.at (i:=4) Z,cd.at (i:=5) Z,cd.at (i:=6) Z,cd.at (i:=7) Z⟩ fun kI771=>CK 8 Z ?_;have g4:=g4.mono (Ac h8);refine BL (r:=.st) 3 y [((a0.1.getD a1.toNat Qq1).2.2.2.2.2.2.2.2.2.2.1).getD b.toNat Qq1] Z Aan cd Z (((bz.mono g).mono c).mono a) g4 bl ?_;intro ed v5 g7 ce h9 js;have a:=a.trans (Ac h9)
       refine AB ⟨a.trans (Ao ce),ce.at (i:=0) Z,ce.at (i:=1) Z,ce.at (i:=4) Z,ce.at (i:=5) Z,ce.at (i:=6) Z,ce.at (i:=7) Z⟩ fun kI773=>Aw 14 a3 kI773 Z (fun _ _=>Af Z Aaz Z Cx.e) Z<|CK 13 Z ?_;have jr:=jr.mono (Ac h9);refine BL (r:=.tree) 2 aa [d.1] Z Aa3 ce Z (((bx.mono g).mono c).mono a) jr bm ?_;intro ee v6 g8 bp ia jt;have a:=a.trans (Ac ia);refine AB ⟨a.trans (Ao bp),bp.at (i:=0) Z,bp.at (i:=1) Z,bp.at (i:=4) Z,bp.at (i:=5) Z,bp.at (i:=6) Z,bp.at (i:=7) Z⟩ fun kI775=>CK 15 Z<|AY 4 Z Z (row_one (bp.at (i:=3) Z)) bp Z Z fun v7 mx fq=>H5 [0,1,2,3,4,5,6,7,8,9,10,11,12,13,14]<|CK 16 Z<|Ag (Af Z Aaz Z Ig.e)<|H5 [0,1,2,3,4,5,6,7,8,9,10,11,12,13,14,15]<|CK 17 Z<|AY 4 Z Z (row_one (mx.at (i:=2) Z)) mx Z Z fun lm sf fr=>En ?_
       refine Cq<|A9<|A2<|Az<|Ag (AA bo)<|Ar 1 Z<|AP ?_;have my:=sf.AR (i:=0) Z;have ju:AW p (Ha [.box b3 [No 0,No 0,Aaa,Aaa,Aaa] 34,.box b2 [Aac ba0] 56,.box ba0 [s,u,x,No d.2.2.2.2] 60,.row ee 34 5 ((aa++[d.1])).length g8,.row ed 9 1 ((y++[((a0.1.getD a1.toNat Qq1).2.2.2.2.2.2.2.2.2.2.1).getD b.toNat Qq1])).length g7,.box ao [No 4,No 0,Aaa,ed,ee] 34,.box b6 [.string ⟨((a0.1.getD a1.toNat Qq1).1).toArray⟩,No ((a0.1.getD a1.toNat Qq1).2.1),e4v2,No ((a0.1.getD a1.toNat Qq1).2.2.2.1),.bool ((a0.1.getD a1.toNat Qq1).2.2.2.2.1),No ((a0.1.getD a1.toNat Qq1).2.2.2.2.2.1),No ((a0.1.getD a1.toNat Qq1).2.2.2.2.2.2.1),No ((a0.1.getD a1.toNat Qq1).2.2.2.2.2.2.2.1),No ((a0.1.getD a1.toNat Qq1).2.2.2.2.2.2.2.2.1),No ((a0.1.getD a1.toNat Qq1).2.2.2.2.2.2.2.2.2.1),e4v10,e4v11] 50] O) lm:=my.Bn [6,6] Z;have fs:=AJ [6,6] my ju Z
       have jv:AW p (Ha [.box ao [No 4,No 0,Aaa,ed,ee] 34,.box b6 [.string ⟨((a0.1.getD a1.toNat Qq1).1).toArray⟩,No ((a0.1.getD a1.toNat Qq1).2.1),e4v2,No ((a0.1.getD a1.toNat Qq1).2.2.2.1),.bool ((a0.1.getD a1.toNat Qq1).2.2.2.2.1),No ((a0.1.getD a1.toNat Qq1).2.2.2.2.2.1),No ((a0.1.getD a1.toNat Qq1).2.2.2.2.2.2.1),No ((a0.1.getD a1.toNat Qq1).2.2.2.2.2.2.2.1),No ((a0.1.getD a1.toNat Qq1).2.2.2.2.2.2.2.2.1),No ((a0.1.getD a1.toNat Qq1).2.2.2.2.2.2.2.2.2.1),e4v10,e4v11] 50,.box b3 [No 0,No 0,Aaa,Aaa,Aaa] 34,.box b2 [Aac ba0] 56,.box ba0 [s,u,x,No d.2.2.2.2] 60,.row ee 34 5 ((aa++[d.1])).length g8,.row ed 9 1 ((y++[((a0.1.getD a1.toNat Qq1).2.2.2.2.2.2.2.2.2.2.1).getD b.toNat Qq1])).length g7] O) lm:=ju.Bn [6,6] Z;have ft:=AJ [6,6] ju jv Z
       have mz:AW p (Ha [.row ee 34 5 ((aa++[d.1])).length g8,.row ed 9 1 ((y++[((a0.1.getD a1.toNat Qq1).2.2.2.2.2.2.2.2.2.2.1).getD b.toNat Qq1])).length g7,.box ao [No 4,No 0,Aaa,ed,ee] 34,.box b6 [.string ⟨((a0.1.getD a1.toNat Qq1).1).toArray⟩,No ((a0.1.getD a1.toNat Qq1).2.1),e4v2,No ((a0.1.getD a1.toNat Qq1).2.2.2.1),.bool ((a0.1.getD a1.toNat Qq1).2.2.2.2.1),No ((a0.1.getD a1.toNat Qq1).2.2.2.2.2.1),No ((a0.1.getD a1.toNat Qq1).2.2.2.2.2.2.1),No ((a0.1.getD a1.toNat Qq1).2.2.2.2.2.2.2.1),No ((a0.1.getD a1.toNat Qq1).2.2.2.2.2.2.2.2.1),No ((a0.1.getD a1.toNat Qq1).2.2.2.2.2.2.2.2.2.1),e4v10,e4v11] 50,.box b3 [No 0,No 0,Aaa,Aaa,Aaa] 34,.box b2 [Aac ba0] 56,.box ba0 [s,u,x,No d.2.2.2.2] 60] O) lm:=jv.Bn [6,6] Z;have fu:=AJ [6,6] jv mz Z;have h:=BW.again h cy;have hT:=hT.trans (b0.trans (b1.trans (k.trans (o.trans (b4.trans (h5.trans (h8.trans (h9.trans (ia.trans (fq.trans (fr.trans ((Ah (i:=0) Z).trans (fs.trans (ft.trans fu))))))))))))));have ac:=ac.mono (Ac (k.trans o))
       have ad:=ad.mono (Ac (k.trans o));have ae:=ae.mono (Ac (k.trans o));have js:=js.mono (Ac (ia.trans (fq.trans (fr.trans ((Ah (i:=0) Z).trans (fs.trans (ft.trans fu)))))));have jt:=jt.mono (Ac (fq.trans (fr.trans ((Ah (i:=0) Z).trans (fs.trans (ft.trans fu))))));have a:=a.trans (Ac (fq.trans (fr.trans ((Ah (i:=0) Z).trans (fs.trans (ft.trans fu))))));refine AN (d.2.1,d.2.2.1,d.2.2.2.1,d.2.2.2.2,(y++[((a0.1.getD a1.toNat Qq1).2.2.2.2.2.2.2.2.2.2.1).getD b.toNat Qq1]),(aa++[d.1]),(b+1),s,u,x,ed,g7,ee,g8,c9) ⟨mz,(((a8.mono g).mono c).mono a),jt,js,(((bd.mono g).mono c).mono a),(((a2.mono g).mono c).mono a),((ac.mono c).mono a),((ad.mono c).mono a),((ae.mono c).mono a),hT,h⟩
      refine A3 h fun bl h=>A3 h fun bm h=>A3 h fun bo h=>?_;have ai:=ai.mono (Ac (k.trans o));have aj:=aj.mono (Ac (k.trans o));have ak:=ak.mono (Ac (k.trans o));refine BV [d.1] (r:=.tree) (fun _=>N8 _ _ _ _ _ _) ab (.c5 (Go.E.Rp.Fa ⟨_,_,Z,Z,⟨_,_,Z,Z,⟨_,_,Z,⟨_,Z,((ai.mono c).mono a)⟩,⟨_,_,Z,⟨_,Z,((aj.mono c).mono a)⟩,⟨_,Z,((ak.mono c).mono a)⟩⟩⟩⟩⟩) .nil) ?_;intro v8 v9 t3 cf lc jw;have a:=a.trans (Ac lc);refine AB ⟨a.trans (Ao cf),cf.at (i:=0) Z,cf.at (i:=1) Z,cf.at (i:=4) Z,cf.at (i:=5) Z,cf.at (i:=6) Z,cf.at (i:=7) Z⟩ fun kI783=>CK 7 Z<|BV [((a0.1.getD a1.toNat Qq1).2.2.2.2.2.2.2.2.2.2.1).getD b.toNat Qq1] (r:=.st) (fun _=>M7 _ Z _) cf (.c1 Z .nil) ?_;intro wa wb t4 cg ib sg;have a:=a.trans (Ac ib);refine AB ⟨a.trans (Ao cg),cg.at (i:=0) Z,cg.at (i:=1) Z,cg.at (i:=4) Z,cg.at (i:=5) Z,cg.at (i:=6) Z,cg.at (i:=7) Z⟩ fun kI785=>?_
      refine CK 8 Z<|BL (r:=.st) 3 y [((a0.1.getD a1.toNat Qq1).2.2.2.2.2.2.2.2.2.2.1).getD b.toNat Qq1] Z Aan cg Z (((bz.mono g).mono c).mono a) sg bl ?_;intro ef wc g9 ch ic jx;have a:=a.trans (Ac ic);refine AB ⟨a.trans (Ao ch),ch.at (i:=0) Z,ch.at (i:=1) Z,ch.at (i:=4) Z,ch.at (i:=5) Z,ch.at (i:=6) Z,ch.at (i:=7) Z⟩ fun kI787=>Aw 14 a3 kI787 Z (fun _ _=>Af Z Aaz Z Cx.e) Z<|CK 13 Z ?_;have jw:=jw.mono (Ac (ib.trans ic));refine BL (r:=.tree) 2 aa [d.1] Z Aa3 ch Z (((bx.mono g).mono c).mono a) jw bm ?_;intro eg wd ha bq ie jy;have a:=a.trans (Ac ie);refine AB ⟨a.trans (Ao bq),bq.at (i:=0) Z,bq.at (i:=1) Z,bq.at (i:=4) Z,bq.at (i:=5) Z,bq.at (i:=6) Z,bq.at (i:=7) Z⟩ fun kI789=>CK 15 Z<|AY 4 Z Z (row_one (bq.at (i:=3) Z)) bq Z Z ?_;intro we m0 fv
      refine H5 [0,1,2,3,4,5,6,7,8,9,10,11,12,13,14]<|CK 16 Z<|Ag (Af Z Aaz Z Ig.e)<|H5 [0,1,2,3,4,5,6,7,8,9,10,11,12,13,14,15]<|CK 17 Z<|AY 4 Z Z (row_one (m0.at (i:=2) Z)) m0 Z Z fun ln sh fw=>En<|Cq<|A9<|A2<|Az<|Ag (AA bo)<|Ar 1 Z<|AP ?_;have m1:=sh.AR (i:=0) Z
      have jz:AW p (Ha [.box b3 [No 0,No 0,Aaa,Aaa,Aaa] 34,.box b2 [Aac ba0] 56,.box ba0 [s,u,x,No d.2.2.2.2] 60,.row eg 34 5 ((aa++[d.1])).length ha,.row ef 9 1 ((y++[((a0.1.getD a1.toNat Qq1).2.2.2.2.2.2.2.2.2.2.1).getD b.toNat Qq1])).length g9,.box ao [No 4,No 0,Aaa,ef,eg] 34,.box b6 [.string ⟨((a0.1.getD a1.toNat Qq1).1).toArray⟩,No ((a0.1.getD a1.toNat Qq1).2.1),e4v2,No ((a0.1.getD a1.toNat Qq1).2.2.2.1),.bool ((a0.1.getD a1.toNat Qq1).2.2.2.2.1),No ((a0.1.getD a1.toNat Qq1).2.2.2.2.2.1),No ((a0.1.getD a1.toNat Qq1).2.2.2.2.2.2.1),No ((a0.1.getD a1.toNat Qq1).2.2.2.2.2.2.2.1),No ((a0.1.getD a1.toNat Qq1).2.2.2.2.2.2.2.2.1),No ((a0.1.getD a1.toNat Qq1).2.2.2.2.2.2.2.2.2.1),e4v10,e4v11] 50] O) ln:=m1.Bn [6,6] Z;have fx:=AJ [6,6] m1 jz Z
      have j0:AW p (Ha [.box ao [No 4,No 0,Aaa,ef,eg] 34,.box b6 [.string ⟨((a0.1.getD a1.toNat Qq1).1).toArray⟩,No ((a0.1.getD a1.toNat Qq1).2.1),e4v2,No ((a0.1.getD a1.toNat Qq1).2.2.2.1),.bool ((a0.1.getD a1.toNat Qq1).2.2.2.2.1),No ((a0.1.getD a1.toNat Qq1).2.2.2.2.2.1),No ((a0.1.getD a1.toNat Qq1).2.2.2.2.2.2.1),No ((a0.1.getD a1.toNat Qq1).2.2.2.2.2.2.2.1),No ((a0.1.getD a1.toNat Qq1).2.2.2.2.2.2.2.2.1),No ((a0.1.getD a1.toNat Qq1).2.2.2.2.2.2.2.2.2.1),e4v10,e4v11] 50,.box b3 [No 0,No 0,Aaa,Aaa,Aaa] 34,.box b2 [Aac ba0] 56,.box ba0 [s,u,x,No d.2.2.2.2] 60,.row eg 34 5 ((aa++[d.1])).length ha,.row ef 9 1 ((y++[((a0.1.getD a1.toNat Qq1).2.2.2.2.2.2.2.2.2.2.1).getD b.toNat Qq1])).length g9] O) ln:=jz.Bn [6,6] Z;have fy:=AJ [6,6] jz j0 Z
      have m2:AW p (Ha [.row eg 34 5 ((aa++[d.1])).length ha,.row ef 9 1 ((y++[((a0.1.getD a1.toNat Qq1).2.2.2.2.2.2.2.2.2.2.1).getD b.toNat Qq1])).length g9,.box ao [No 4,No 0,Aaa,ef,eg] 34,.box b6 [.string ⟨((a0.1.getD a1.toNat Qq1).1).toArray⟩,No ((a0.1.getD a1.toNat Qq1).2.1),e4v2,No ((a0.1.getD a1.toNat Qq1).2.2.2.1),.bool ((a0.1.getD a1.toNat Qq1).2.2.2.2.1),No ((a0.1.getD a1.toNat Qq1).2.2.2.2.2.1),No ((a0.1.getD a1.toNat Qq1).2.2.2.2.2.2.1),No ((a0.1.getD a1.toNat Qq1).2.2.2.2.2.2.2.1),No ((a0.1.getD a1.toNat Qq1).2.2.2.2.2.2.2.2.1),No ((a0.1.getD a1.toNat Qq1).2.2.2.2.2.2.2.2.2.1),e4v10,e4v11] 50,.box b3 [No 0,No 0,Aaa,Aaa,Aaa] 34,.box b2 [Aac ba0] 56,.box ba0 [s,u,x,No d.2.2.2.2] 60] O) ln:=j0.Bn [6,6] Z;have f0:=AJ [6,6] j0 m2 Z;have h:=BW.again h cy;have hT:=hT.trans (b0.trans (b1.trans (k.trans (o.trans (b4.trans (lc.trans (ib.trans (ic.trans (ie.trans (fv.trans (fw.trans ((Ah (i:=0) Z).trans (fx.trans (fy.trans f0))))))))))))));have ac:=ac.mono (Ac (k.trans o))
      have ad:=ad.mono (Ac (k.trans o));have ae:=ae.mono (Ac (k.trans o));have jx:=jx.mono (Ac (ie.trans (fv.trans (fw.trans ((Ah (i:=0) Z).trans (fx.trans (fy.trans f0)))))));have jy:=jy.mono (Ac (fv.trans (fw.trans ((Ah (i:=0) Z).trans (fx.trans (fy.trans f0))))));have a:=a.trans (Ac (fv.trans (fw.trans ((Ah (i:=0) Z).trans (fx.trans (fy.trans f0))))));refine AN (d.2.1,d.2.2.1,d.2.2.2.1,d.2.2.2.2,(y++[((a0.1.getD a1.toNat Qq1).2.2.2.2.2.2.2.2.2.2.1).getD b.toNat Qq1]),(aa++[d.1]),(b+1),s,u,x,ef,g9,eg,ha,c9) ⟨m2,(((a8.mono g).mono c).mono a),jy,jx,(((bd.mono g).mono c).mono a),(((a2.mono g).mono c).mono a),((ac.mono c).mono a),((ad.mono c).mono a),((ae.mono c).mono a),hT,h⟩
     refine A3 h fun bl h=>A3 h fun bm h=>A3 h fun bo h=>?_;have ai:=ai.mono (Ac (k.trans o));have aj:=aj.mono (Ac (k.trans o));have ak:=ak.mono (Ac (k.trans o));refine BV [d.1] (r:=.tree) (fun _=>N8 _ _ _ _ _ _) ab (.c5 (Go.E.Rp.Fa ⟨_,_,Z,Z,⟨_,_,Z,Z,⟨_,_,Z,⟨_,Z,((ai.mono c).mono a)⟩,⟨_,_,Z,⟨_,Z,((aj.mono c).mono a)⟩,⟨_,Z,((ak.mono c).mono a)⟩⟩⟩⟩⟩) .nil) ?_;intro wf wg t5 aw ig j1;have a:=a.trans (Ac ig);refine AB ⟨a.trans (Ao aw),aw.at (i:=0) Z,aw.at (i:=1) Z,aw.at (i:=4) Z,aw.at (i:=5) Z,aw.at (i:=6) Z,aw.at (i:=7) Z⟩ fun kI797=>CK 6 Z ?_;have g3:=g3.mono (Ac ig);refine Ag (AX g3 (Ao aw))<|AB ⟨a.trans (Ao aw),aw.at (i:=0) Z,aw.at (i:=1) Z,aw.at (i:=4) Z,aw.at (i:=5) Z,aw.at (i:=6) Z,aw.at (i:=7) Z⟩ fun kI798=>CK 7 Z ?_
     refine BV [((a0.1.getD a1.toNat Qq1).2.2.2.2.2.2.2.2.2.2.1).getD b.toNat Qq1] (r:=.st) (fun _=>M7 _ Z _) aw (.c1 Z .nil) ?_;intro wh wi t6 ci ih si;have a:=a.trans (Ac ih);refine AB ⟨a.trans (Ao ci),ci.at (i:=0) Z,ci.at (i:=1) Z,ci.at (i:=4) Z,ci.at (i:=5) Z,ci.at (i:=6) Z,ci.at (i:=7) Z⟩ fun kI800=>CK 8 Z<|BL (r:=.st) 3 y [((a0.1.getD a1.toNat Qq1).2.2.2.2.2.2.2.2.2.2.1).getD b.toNat Qq1] Z Aan ci Z (((bz.mono g).mono c).mono a) si bl ?_;intro eh wj hb cj ii j2;have a:=a.trans (Ac ii);refine AB ⟨a.trans (Ao cj),cj.at (i:=0) Z,cj.at (i:=1) Z,cj.at (i:=4) Z,cj.at (i:=5) Z,cj.at (i:=6) Z,cj.at (i:=7) Z⟩ fun kI802=>Aw 14 a3 kI802 Z (fun _ _=>Af Z Aaz Z Cx.e) Z<|CK 13 Z ?_;have j1:=j1.mono (Ac (ih.trans ii));refine BL (r:=.tree) 2 aa [d.1] Z Aa3 cj Z (((bx.mono g).mono c).mono a) j1 bm ?_;intro ei wk hc br ij j3
     have a:=a.trans (Ac ij);refine AB ⟨a.trans (Ao br),br.at (i:=0) Z,br.at (i:=1) Z,br.at (i:=4) Z,br.at (i:=5) Z,br.at (i:=6) Z,br.at (i:=7) Z⟩ fun kI804=>CK 15 Z<|AY 4 Z Z (row_one (br.at (i:=3) Z)) br Z Z fun wl m3 f1=>H5 [0,1,2,3,4,5,6,7,8,9,10,11,12,13,14]<|CK 16 Z<|Ag (Af Z Aaz Z Ig.e)<|H5 [0,1,2,3,4,5,6,7,8,9,10,11,12,13,14,15]<|CK 17 Z<|AY 4 Z Z (row_one (m3.at (i:=2) Z)) m3 Z Z fun lo sj f2=>En<|Cq<|A9<|A2<|Az<|Ag (AA bo)<|Ar 1 Z<|AP ?_;have m4:=sj.AR (i:=0) Z
     have j4:AW p (Ha [.box b3 [No 0,No 0,Aaa,Aaa,Aaa] 34,.box b2 [Aac ba0] 56,.box ba0 [s,u,x,No d.2.2.2.2] 60,.row ei 34 5 ((aa++[d.1])).length hc,.row eh 9 1 ((y++[((a0.1.getD a1.toNat Qq1).2.2.2.2.2.2.2.2.2.2.1).getD b.toNat Qq1])).length hb,.box ao [No 4,No 0,Aaa,eh,ei] 34,.box b6 [.string ⟨((a0.1.getD a1.toNat Qq1).1).toArray⟩,No ((a0.1.getD a1.toNat Qq1).2.1),e4v2,No ((a0.1.getD a1.toNat Qq1).2.2.2.1),.bool ((a0.1.getD a1.toNat Qq1).2.2.2.2.1),No ((a0.1.getD a1.toNat Qq1).2.2.2.2.2.1),No ((a0.1.getD a1.toNat Qq1).2.2.2.2.2.2.1),No ((a0.1.getD a1.toNat Qq1).2.2.2.2.2.2.2.1),No ((a0.1.getD a1.toNat Qq1).2.2.2.2.2.2.2.2.1),No ((a0.1.getD a1.toNat Qq1).2.2.2.2.2.2.2.2.2.1),e4v10,e4v11] 50] O) lo:=m4.Bn [6,6] Z;have f3:=AJ [6,6] m4 j4 Z
     have j5:AW p (Ha [.box ao [No 4,No 0,Aaa,eh,ei] 34,.box b6 [.string ⟨((a0.1.getD a1.toNat Qq1).1).toArray⟩,No ((a0.1.getD a1.toNat Qq1).2.1),e4v2,No ((a0.1.getD a1.toNat Qq1).2.2.2.1),.bool ((a0.1.getD a1.toNat Qq1).2.2.2.2.1),No ((a0.1.getD a1.toNat Qq1).2.2.2.2.2.1),No ((a0.1.getD a1.toNat Qq1).2.2.2.2.2.2.1),No ((a0.1.getD a1.toNat Qq1).2.2.2.2.2.2.2.1),No ((a0.1.getD a1.toNat Qq1).2.2.2.2.2.2.2.2.1),No ((a0.1.getD a1.toNat Qq1).2.2.2.2.2.2.2.2.2.1),e4v10,e4v11] 50,.box b3 [No 0,No 0,Aaa,Aaa,Aaa] 34,.box b2 [Aac ba0] 56,.box ba0 [s,u,x,No d.2.2.2.2] 60,.row ei 34 5 ((aa++[d.1])).length hc,.row eh 9 1 ((y++[((a0.1.getD a1.toNat Qq1).2.2.2.2.2.2.2.2.2.2.1).getD b.toNat Qq1])).length hb] O) lo:=j4.Bn [6,6] Z;have f4:=AJ [6,6] j4 j5 Z
     have m5:AW p (Ha [.row ei 34 5 ((aa++[d.1])).length hc,.row eh 9 1 ((y++[((a0.1.getD a1.toNat Qq1).2.2.2.2.2.2.2.2.2.2.1).getD b.toNat Qq1])).length hb,.box ao [No 4,No 0,Aaa,eh,ei] 34,.box b6 [.string ⟨((a0.1.getD a1.toNat Qq1).1).toArray⟩,No ((a0.1.getD a1.toNat Qq1).2.1),e4v2,No ((a0.1.getD a1.toNat Qq1).2.2.2.1),.bool ((a0.1.getD a1.toNat Qq1).2.2.2.2.1),No ((a0.1.getD a1.toNat Qq1).2.2.2.2.2.1),No ((a0.1.getD a1.toNat Qq1).2.2.2.2.2.2.1),No ((a0.1.getD a1.toNat Qq1).2.2.2.2.2.2.2.1),No ((a0.1.getD a1.toNat Qq1).2.2.2.2.2.2.2.2.1),No ((a0.1.getD a1.toNat Qq1).2.2.2.2.2.2.2.2.2.1),e4v10,e4v11] 50,.box b3 [No 0,No 0,Aaa,Aaa,Aaa] 34,.box b2 [Aac ba0] 56,.box ba0 [s,u,x,No d.2.2.2.2] 60] O) lo:=j5.Bn [6,6] Z;have f5:=AJ [6,6] j5 m5 Z;have h:=BW.again h cy;have hT:=hT.trans (b0.trans (b1.trans (k.trans (o.trans (b4.trans (ig.trans (ih.trans (ii.trans (ij.trans (f1.trans (f2.trans ((Ah (i:=0) Z).trans (f3.trans (f4.trans f5))))))))))))));have ac:=ac.mono (Ac (k.trans o))
     have ad:=ad.mono (Ac (k.trans o));have ae:=ae.mono (Ac (k.trans o));have j2:=j2.mono (Ac (ij.trans (f1.trans (f2.trans ((Ah (i:=0) Z).trans (f3.trans (f4.trans f5)))))));have j3:=j3.mono (Ac (f1.trans (f2.trans ((Ah (i:=0) Z).trans (f3.trans (f4.trans f5))))));have a:=a.trans (Ac (f1.trans (f2.trans ((Ah (i:=0) Z).trans (f3.trans (f4.trans f5))))));refine AN (d.2.1,d.2.2.1,d.2.2.2.1,d.2.2.2.2,(y++[((a0.1.getD a1.toNat Qq1).2.2.2.2.2.2.2.2.2.2.1).getD b.toNat Qq1]),(aa++[d.1]),(b+1),s,u,x,eh,hb,ei,hc,c9) ⟨m5,(((a8.mono g).mono c).mono a),j3,j2,(((bd.mono g).mono c).mono a),(((a2.mono g).mono c).mono a),((ac.mono c).mono a),((ad.mono c).mono a),((ae.mono c).mono a),hT,h⟩
    refine A3 h fun fk h=>A3 h fun bl h=>A3 h fun bm h=>A3 h fun bo h=>?_;have ai:=ai.mono (Ac (k.trans o));have aj:=aj.mono (Ac (k.trans o));have ak:=ak.mono (Ac (k.trans o));have c:=c.trans (Ac b4);refine BV [d.1] (r:=.tree) (fun _=>N8 _ _ _ _ _ _) ab (.c5 (Go.E.Rp.Fa ⟨_,_,Z,Z,⟨_,_,Z,Z,⟨_,_,Z,⟨_,Z,((ai.mono c).mono a)⟩,⟨_,_,Z,⟨_,Z,((aj.mono c).mono a)⟩,⟨_,Z,((ak.mono c).mono a)⟩⟩⟩⟩⟩) .nil) ?_;intro wm wn t7 ah ld j6;have a:=a.trans (Ac ld);refine AB ⟨a.trans (Ao ah),ah.at (i:=0) Z,ah.at (i:=1) Z,ah.at (i:=4) Z,ah.at (i:=5) Z,ah.at (i:=6) Z,ah.at (i:=7) Z⟩ fun kI812=>CK 5 Z<|Bf (((a2.mono g).mono c).mono a) b.toNat (CT fk) (AD fk) ?_;rintro wo _ rfl sk;refine AB ⟨a.trans (Ao ah),ah.at (i:=0) Z,ah.at (i:=1) Z,ah.at (i:=4) Z,ah.at (i:=5) Z,ah.at (i:=6) Z,ah.at (i:=7) Z⟩ fun kI814=>CK 6 Z ?_
    refine Ag (AX sk (Ao ah))<|AB ⟨a.trans (Ao ah),ah.at (i:=0) Z,ah.at (i:=1) Z,ah.at (i:=4) Z,ah.at (i:=5) Z,ah.at (i:=6) Z,ah.at (i:=7) Z⟩ fun kI815=>CK 7 Z<|BV [((a0.1.getD a1.toNat Qq1).2.2.2.2.2.2.2.2.2.2.1).getD b.toNat Qq1] (r:=.st) (fun _=>M7 _ Z _) ah (.c1 Z .nil) ?_;intro wp wq t8 ck ik sl;have a:=a.trans (Ac ik);refine AB ⟨a.trans (Ao ck),ck.at (i:=0) Z,ck.at (i:=1) Z,ck.at (i:=4) Z,ck.at (i:=5) Z,ck.at (i:=6) Z,ck.at (i:=7) Z⟩ fun kI817=>CK 8 Z<|BL (r:=.st) 3 y [((a0.1.getD a1.toNat Qq1).2.2.2.2.2.2.2.2.2.2.1).getD b.toNat Qq1] Z Aan ck Z (((bz.mono g).mono c).mono a) sl bl ?_;intro ej ws hd cl il j7;have a:=a.trans (Ac il);refine AB ⟨a.trans (Ao cl),cl.at (i:=0) Z,cl.at (i:=1) Z,cl.at (i:=4) Z,cl.at (i:=5) Z,cl.at (i:=6) Z,cl.at (i:=7) Z⟩ fun kI819=>Aw 14 a3 kI819 Z (fun _ _=>Af Z Aaz Z Cx.e) Z ?_
    refine CK 13 Z ?_;have j6:=j6.mono (Ac (ik.trans il));refine BL (r:=.tree) 2 aa [d.1] Z Aa3 cl Z (((bx.mono g).mono c).mono a) j6 bm ?_;intro ek wt he bs im j8;have a:=a.trans (Ac im);refine AB ⟨a.trans (Ao bs),bs.at (i:=0) Z,bs.at (i:=1) Z,bs.at (i:=4) Z,bs.at (i:=5) Z,bs.at (i:=6) Z,bs.at (i:=7) Z⟩ fun kI821=>CK 15 Z<|AY 4 Z Z (row_one (bs.at (i:=3) Z)) bs Z Z fun wu m6 f6=>H5 [0,1,2,3,4,5,6,7,8,9,10,11,12,13,14]<|CK 16 Z<|Ag (Af Z Aaz Z Ig.e)<|H5 [0,1,2,3,4,5,6,7,8,9,10,11,12,13,14,15]<|CK 17 Z<|AY 4 Z Z (row_one (m6.at (i:=2) Z)) m6 Z Z fun lp sm f7=>En<|Cq<|A9<|A2<|Az<|Ag (AA bo)<|Ar 1 Z<|AP ?_;have m7:=sm.AR (i:=0) Z
    have j9:AW p (Ha [.box b3 [No 0,No 0,Aaa,Aaa,Aaa] 34,.box b2 [Aac ba0] 56,.box ba0 [s,u,x,No d.2.2.2.2] 60,.row ek 34 5 ((aa++[d.1])).length he,.row ej 9 1 ((y++[((a0.1.getD a1.toNat Qq1).2.2.2.2.2.2.2.2.2.2.1).getD b.toNat Qq1])).length hd,.box ao [No 4,No 0,Aaa,ej,ek] 34,.box b6 [.string ⟨((a0.1.getD a1.toNat Qq1).1).toArray⟩,No ((a0.1.getD a1.toNat Qq1).2.1),e4v2,No ((a0.1.getD a1.toNat Qq1).2.2.2.1),.bool ((a0.1.getD a1.toNat Qq1).2.2.2.2.1),No ((a0.1.getD a1.toNat Qq1).2.2.2.2.2.1),No ((a0.1.getD a1.toNat Qq1).2.2.2.2.2.2.1),No ((a0.1.getD a1.toNat Qq1).2.2.2.2.2.2.2.1),No ((a0.1.getD a1.toNat Qq1).2.2.2.2.2.2.2.2.1),No ((a0.1.getD a1.toNat Qq1).2.2.2.2.2.2.2.2.2.1),e4v10,e4v11] 50] O) lp:=m7.Bn [6,6] Z;have f8:=AJ [6,6] m7 j9 Z
    have ka:AW p (Ha [.box ao [No 4,No 0,Aaa,ej,ek] 34,.box b6 [.string ⟨((a0.1.getD a1.toNat Qq1).1).toArray⟩,No ((a0.1.getD a1.toNat Qq1).2.1),e4v2,No ((a0.1.getD a1.toNat Qq1).2.2.2.1),.bool ((a0.1.getD a1.toNat Qq1).2.2.2.2.1),No ((a0.1.getD a1.toNat Qq1).2.2.2.2.2.1),No ((a0.1.getD a1.toNat Qq1).2.2.2.2.2.2.1),No ((a0.1.getD a1.toNat Qq1).2.2.2.2.2.2.2.1),No ((a0.1.getD a1.toNat Qq1).2.2.2.2.2.2.2.2.1),No ((a0.1.getD a1.toNat Qq1).2.2.2.2.2.2.2.2.2.1),e4v10,e4v11] 50,.box b3 [No 0,No 0,Aaa,Aaa,Aaa] 34,.box b2 [Aac ba0] 56,.box ba0 [s,u,x,No d.2.2.2.2] 60,.row ek 34 5 ((aa++[d.1])).length he,.row ej 9 1 ((y++[((a0.1.getD a1.toNat Qq1).2.2.2.2.2.2.2.2.2.2.1).getD b.toNat Qq1])).length hd] O) lp:=j9.Bn [6,6] Z;have f9:=AJ [6,6] j9 ka Z
    have m8:AW p (Ha [.row ek 34 5 ((aa++[d.1])).length he,.row ej 9 1 ((y++[((a0.1.getD a1.toNat Qq1).2.2.2.2.2.2.2.2.2.2.1).getD b.toNat Qq1])).length hd,.box ao [No 4,No 0,Aaa,ej,ek] 34,.box b6 [.string ⟨((a0.1.getD a1.toNat Qq1).1).toArray⟩,No ((a0.1.getD a1.toNat Qq1).2.1),e4v2,No ((a0.1.getD a1.toNat Qq1).2.2.2.1),.bool ((a0.1.getD a1.toNat Qq1).2.2.2.2.1),No ((a0.1.getD a1.toNat Qq1).2.2.2.2.2.1),No ((a0.1.getD a1.toNat Qq1).2.2.2.2.2.2.1),No ((a0.1.getD a1.toNat Qq1).2.2.2.2.2.2.2.1),No ((a0.1.getD a1.toNat Qq1).2.2.2.2.2.2.2.2.1),No ((a0.1.getD a1.toNat Qq1).2.2.2.2.2.2.2.2.2.1),e4v10,e4v11] 50,.box b3 [No 0,No 0,Aaa,Aaa,Aaa] 34,.box b2 [Aac ba0] 56,.box ba0 [s,u,x,No d.2.2.2.2] 60] O) lp:=ka.Bn [6,6] Z;have ga:=AJ [6,6] ka m8 Z;have h:=BW.again h cy;have hT:=hT.trans (b0.trans (b1.trans (k.trans (o.trans (b4.trans (ld.trans (ik.trans (il.trans (im.trans (f6.trans (f7.trans ((Ah (i:=0) Z).trans (f8.trans (f9.trans ga))))))))))))));have ac:=ac.mono (Ac (k.trans o))
    have ad:=ad.mono (Ac (k.trans o));have ae:=ae.mono (Ac (k.trans o));have j7:=j7.mono (Ac (im.trans (f6.trans (f7.trans ((Ah (i:=0) Z).trans (f8.trans (f9.trans ga)))))));have j8:=j8.mono (Ac (f6.trans (f7.trans ((Ah (i:=0) Z).trans (f8.trans (f9.trans ga))))));have a:=a.trans (Ac (f6.trans (f7.trans ((Ah (i:=0) Z).trans (f8.trans (f9.trans ga))))));refine AN (d.2.1,d.2.2.1,d.2.2.2.1,d.2.2.2.2,(y++[((a0.1.getD a1.toNat Qq1).2.2.2.2.2.2.2.2.2.2.1).getD b.toNat Qq1]),(aa++[d.1]),(b+1),s,u,x,ej,hd,ek,he,c9) ⟨m8,(((a8.mono g).mono c).mono a),j8,j7,(((bd.mono g).mono c).mono a),(((a2.mono g).mono c).mono a),((ac.mono c).mono a),((ad.mono c).mono a),((ae.mono c).mono a),hT,h⟩
   refine A4<|A9<|A2<|Az<|A3 h fun sn h=>Ag (AA sn)<|Ar 1 Z<|AP ?_;have m9:=d3.AR (i:=0) Z;have kb:AW p (Ha [.box b3 [No 0,No 0,Aaa,Aaa,Aaa] 34,.box b2 [Aac ba0] 56,.box ba0 [s,u,x,No d.2.2.2.2] 60,.row ar 34 5 (aa).length ay,.row aq 9 1 (y).length ax,.box ao [No 4,No 0,Aaa,aq,ar] 34,.box b6 [.string ⟨((a0.1.getD a1.toNat Qq1).1).toArray⟩,No ((a0.1.getD a1.toNat Qq1).2.1),e4v2,No ((a0.1.getD a1.toNat Qq1).2.2.2.1),.bool ((a0.1.getD a1.toNat Qq1).2.2.2.2.1),No ((a0.1.getD a1.toNat Qq1).2.2.2.2.2.1),No ((a0.1.getD a1.toNat Qq1).2.2.2.2.2.2.1),No ((a0.1.getD a1.toNat Qq1).2.2.2.2.2.2.2.1),No ((a0.1.getD a1.toNat Qq1).2.2.2.2.2.2.2.2.1),No ((a0.1.getD a1.toNat Qq1).2.2.2.2.2.2.2.2.2.1),e4v10,e4v11] 50] O) lk:=m9.Bn [6,6] Z;have le:=AJ [6,6] m9 kb Z
   have kc:AW p (Ha [.box ao [No 4,No 0,Aaa,aq,ar] 34,.box b6 [.string ⟨((a0.1.getD a1.toNat Qq1).1).toArray⟩,No ((a0.1.getD a1.toNat Qq1).2.1),e4v2,No ((a0.1.getD a1.toNat Qq1).2.2.2.1),.bool ((a0.1.getD a1.toNat Qq1).2.2.2.2.1),No ((a0.1.getD a1.toNat Qq1).2.2.2.2.2.1),No ((a0.1.getD a1.toNat Qq1).2.2.2.2.2.2.1),No ((a0.1.getD a1.toNat Qq1).2.2.2.2.2.2.2.1),No ((a0.1.getD a1.toNat Qq1).2.2.2.2.2.2.2.2.1),No ((a0.1.getD a1.toNat Qq1).2.2.2.2.2.2.2.2.2.1),e4v10,e4v11] 50,.box b3 [No 0,No 0,Aaa,Aaa,Aaa] 34,.box b2 [Aac ba0] 56,.box ba0 [s,u,x,No d.2.2.2.2] 60,.row ar 34 5 (aa).length ay,.row aq 9 1 (y).length ax] O) lk:=kb.Bn [6,6] Z;have lf:=AJ [6,6] kb kc Z
   have na:AW p (Ha [.row ar 34 5 (aa).length ay,.row aq 9 1 (y).length ax,.box ao [No 4,No 0,Aaa,aq,ar] 34,.box b6 [.string ⟨((a0.1.getD a1.toNat Qq1).1).toArray⟩,No ((a0.1.getD a1.toNat Qq1).2.1),e4v2,No ((a0.1.getD a1.toNat Qq1).2.2.2.1),.bool ((a0.1.getD a1.toNat Qq1).2.2.2.2.1),No ((a0.1.getD a1.toNat Qq1).2.2.2.2.2.1),No ((a0.1.getD a1.toNat Qq1).2.2.2.2.2.2.1),No ((a0.1.getD a1.toNat Qq1).2.2.2.2.2.2.2.1),No ((a0.1.getD a1.toNat Qq1).2.2.2.2.2.2.2.2.1),No ((a0.1.getD a1.toNat Qq1).2.2.2.2.2.2.2.2.2.1),e4v10,e4v11] 50,.box b3 [No 0,No 0,Aaa,Aaa,Aaa] 34,.box b2 [Aac ba0] 56,.box ba0 [s,u,x,No d.2.2.2.2] 60] O) lk:=kc.Bn [6,6] Z;have lg:=AJ [6,6] kc na Z;have h:=BW.again h cy;have hT:=hT.trans (b0.trans (b1.trans (k.trans (o.trans ((Ah (i:=0) Z).trans (le.trans (lf.trans lg)))))));have ac:=ac.mono (Ac (k.trans o));have ad:=ad.mono (Ac (k.trans o));have ae:=ae.mono (Ac (k.trans o))
   have c:=c.trans (Ac ((Ah (i:=0) Z).trans (le.trans (lf.trans lg))));refine AN (d.2.1,d.2.2.1,d.2.2.2.1,d.2.2.2.2,y,aa,(b+1),s,u,x,aq,ax,ar,ay,c9) ⟨na,((a8.mono g).mono c),((bx.mono g).mono c),((bz.mono g).mono c),((bd.mono g).mono c),((a2.mono g).mono c),(ac.mono c),(ad.mono c),(ae.mono c),hT,h⟩
  refine Bq<|AK<|AF ?_;have h:=BW.out h cy;refine Bj<|AH (d8,d9,ea,da,y,aa,cv,cw,cx,aq,ax,ar,ay) ⟨d2,(bx.mono g),(bz.mono g),(bd.mono g),(a2.mono g),(a8.mono g),(k5.mono g),(k6.mono g),(k7.mono g),hT,h⟩
 have hT:=hT.trans (h0.trans h1);rintro⟨ji,jj,jk,jl,h2,h3,fd,fe,ff,fg,fh,fi,fj⟩ t9 ⟨gb,py,pz,ta,tb,tc,p0,p1,p2,hT,h⟩;have bb:=gb.rG H;refine Aq<|Ag (Ax 2 Z B5.e gb Z)<|A7 4 Z gb Z (h1:=(BP Z (BP Z (BP Z (BP (row_one (gb.at (i:=1) Z)) (BP (row_one (gb.at (i:=0) Z)) Mx)))))) fun wv kd lh=>Al<|Au ?_
 cases h
 refine DO (.cell Z Aaz Z B5.e (Bo (i:=4) kd Z)) ?_;have bb:=bb.trans (Ac lh);have ke:=kd.Dj hH (i:=1) Z (pz.mono bb);have nb:=kd.AR (i:=1) Z;have bb:=bb.trans (Ac (Ah (i:=1) Z));have kf:=nb.Dj hH (i:=0) Z (py.mono bb);have so:=nb.AR (i:=0) Z;have sp:=so.AR (i:=0) Z;have sq:=sp.AR (i:=0) Z;have sr:=sq.AR (i:=0) Z;have ss:=sr.AR (i:=0) Z;have hT:=hT.trans (lh.trans ((Ah (i:=1) Z).trans ((Ah (i:=0) Z).trans ((Ah (i:=0) Z).trans ((Ah (i:=0) Z).trans ((Ah (i:=0) Z).trans (Ah (i:=0) Z)))))));have ke:=ke.mono (Ac ((Ah (i:=0) Z).trans ((Ah (i:=0) Z).trans ((Ah (i:=0) Z).trans ((Ah (i:=0) Z).trans (Ah (i:=0) Z))))));have bb:=bb.trans (Ac ((Ah (i:=0) Z).trans ((Ah (i:=0) Z).trans ((Ah (i:=0) Z).trans ((Ah (i:=0) Z).trans (Ah (i:=0) Z))))));have kf:=kf.mono (Ac ((Ah (i:=0) Z).trans ((Ah (i:=0) Z).trans ((Ah (i:=0) Z).trans (Ah (i:=0) Z)))))
 exact⟨Aaa,fg,fi,fd,fe,ff,Z,ss,hT,(AL.nil _ _),ke,kf,(p0.mono bb),(p1.mono bb),(p2.mono bb)⟩
def DB:Nat->AaF->(Int)->Option (Pv×AaF)
 | 0=>fun _ _=>none
 | n+1=>Be (DB n)
def H3:AaF->(Int)->Option (Pv×AaF):=DB 1000
theorem Lz(n:Nat):∀{a w:World}{H:PH} (hH:Le H (hp a)) (hU:Jm H) {O:List BN}{a0:AaF}{a1:Int}{ba0:Nat}{va0_0:Value}{va0_1:Value}{va0_2:Value} (hL:AW a (Ha [.box ba0 [va0_0,va0_1,va0_2,No a0.2.2.2] 60] O) w) (j:AL AaK (gz H a w (Ha [.box ba0 [va0_0,va0_1,va0_2,No a0.2.2.2] 60] O)) va0_0 (a0.1)) (k:AL (.vec (.int .i64)) (gz H a w (Ha [.box ba0 [va0_0,va0_1,va0_2,No a0.2.2.2] 60] O)) va0_1 (a0.2.1)) (l:AL .byte (gz H a w (Ha [.box ba0 [va0_0,va0_1,va0_2,No a0.2.2.2] 60] O)) va0_2 (a0.2.2.1)) {r:Pv×AaF} (h:DB n a0 a1=some r),Ok prog 19 [Aac ba0,No a1] w (fun v w'=>∃(e:Value) (g:Value) (i:Value) (b:Value) (c:Value) (d:Value),v=.agg #[No r.1.f.1,No r.1.f.2.1,e,g,i]/\AW a (Ha [.box ba0 [b,c,d,No r.2.2.2.2] 60] O) w'/\Le (fz w (Ha [.box ba0 [va0_0,va0_1,va0_2,No a0.2.2.2] 60] O)) (fz w' (Ha [.box ba0 [b,c,d,No r.2.2.2.2] 60] O))/\AL .byte (gz H a w' (Ha [.box ba0 [b,c,d,No r.2.2.2.2] 60] O)) e (r.1.f.2.2.1)/\AL .st (gz H a w' (Ha [.box ba0 [b,c,d,No r.2.2.2.2] 60] O)) g (r.1.f.2.2.2.1)/\AL .tree (gz H a w' (Ha [.box ba0 [b,c,d,No r.2.2.2.2] 60] O)) i (r.1.f.2.2.2.2)/\AL AaK (gz H a w' (Ha [.box ba0 [b,c,d,No r.2.2.2.2] 60] O)) b (r.2.1)/\AL (.vec (.int .i64)) (gz H a w' (Ha [.box ba0 [b,c,d,No r.2.2.2.2] 60] O)) c (r.2.2.1)/\AL .byte (gz H a w' (Ha [.box ba0 [b,c,d,No r.2.2.2.2] 60] O)) d (r.2.2.2.1)):=by
 induction n with
 | zero=>intros;rename_i h;cases h
 | succ n ih=>exact @K3 (DB n) ih
theorem LZ:∀{a w:World}{H:PH} (hH:Le H (hp a)) (hU:Jm H) {O:List BN}{a0:AaF}{a1:Int}{ba0:Nat}{va0_0:Value}{va0_1:Value}{va0_2:Value} (hL:AW a (Ha [.box ba0 [va0_0,va0_1,va0_2,No a0.2.2.2] 60] O) w) (j:AL AaK (gz H a w (Ha [.box ba0 [va0_0,va0_1,va0_2,No a0.2.2.2] 60] O)) va0_0 (a0.1)) (k:AL (.vec (.int .i64)) (gz H a w (Ha [.box ba0 [va0_0,va0_1,va0_2,No a0.2.2.2] 60] O)) va0_1 (a0.2.1)) (l:AL .byte (gz H a w (Ha [.box ba0 [va0_0,va0_1,va0_2,No a0.2.2.2] 60] O)) va0_2 (a0.2.2.1)) {r:Pv×AaF} (h:H3 a0 a1=some r),Ok prog 19 [Aac ba0,No a1] w (fun v w'=>∃(e:Value) (g:Value) (i:Value) (b:Value) (c:Value) (d:Value),v=.agg #[No r.1.f.1,No r.1.f.2.1,e,g,i]/\AW a (Ha [.box ba0 [b,c,d,No r.2.2.2.2] 60] O) w'/\Le (fz w (Ha [.box ba0 [va0_0,va0_1,va0_2,No a0.2.2.2] 60] O)) (fz w' (Ha [.box ba0 [b,c,d,No r.2.2.2.2] 60] O))/\AL .byte (gz H a w' (Ha [.box ba0 [b,c,d,No r.2.2.2.2] 60] O)) e (r.1.f.2.2.1)/\AL .st (gz H a w' (Ha [.box ba0 [b,c,d,No r.2.2.2.2] 60] O)) g (r.1.f.2.2.2.1)/\AL .tree (gz H a w' (Ha [.box ba0 [b,c,d,No r.2.2.2.2] 60] O)) i (r.1.f.2.2.2.2)/\AL AaK (gz H a w' (Ha [.box ba0 [b,c,d,No r.2.2.2.2] 60] O)) b (r.2.1)/\AL (.vec (.int .i64)) (gz H a w' (Ha [.box ba0 [b,c,d,No r.2.2.2.2] 60] O)) c (r.2.2.1)/\AL .byte (gz H a w' (Ha [.box ba0 [b,c,d,No r.2.2.2.2] 60] O)) d (r.2.2.2.1)):=Lz 1000
end Go.Proofs.YtnmkjjgmnbmmnaaGreatDoor
end
noncomputable section
namespace Go.Proofs.YtnmkjjgmnbmmnaaGreatDoor
open Go Go.E Go.RowKit Go.L
set_option maxHeartbeats 1000000
set_option maxRecDepth 10000
open _root_.Go.Proofs.Tryz
def BQ(a0:Qq4)(a1:Pv):Option Bool:=
 Qq8 (Cf a0 a1.f.1) (fun a=>some a)
theorem CR{a w:World}{H:PH}(hH:Le H (hp a))(O:List BN)(a0:Qq4)(a1:Pv){va0:Value}{ba1:Nat}{va1_2 va1_3 va1_4:Value}(hL:AW a (Ha [.box ba1 [No a1.f.1,No a1.f.2.1,va1_2,va1_3,va1_4] 34] O) w)(c:AL (.int .i64) (gz H a w (Ha [.box ba1 [No a1.f.1,No a1.f.2.1,va1_2,va1_3,va1_4] 34] O)) va0 a0)(_ha1_2:AL .byte (gz H a w (Ha [.box ba1 [No a1.f.1,No a1.f.2.1,va1_2,va1_3,va1_4] 34] O)) va1_2 (a1.f.2.2.1))(_ha1_3:AL .st (gz H a w (Ha [.box ba1 [No a1.f.1,No a1.f.2.1,va1_2,va1_3,va1_4] 34] O)) va1_3 (a1.f.2.2.2.1))(_ha1_4:AL .tree (gz H a w (Ha [.box ba1 [No a1.f.1,No a1.f.2.1,va1_2,va1_3,va1_4] 34] O)) va1_4 (a1.f.2.2.2.2)){r:Bool}(h:BQ a0 a1=some r):
  Ok prog 177 [va0,Aac ba1] w (fun v w'=>v=.bool r/\AW a (Ha [.box ba1 [No a1.f.1,No a1.f.2.1,va1_2,va1_3,va1_4] 34] O) w'/\Le (fz w (Ha [.box ba1 [No a1.f.1,No a1.f.2.1,va1_2,va1_3,va1_4] 34] O)) (fz w' (Ha [.box ba1 [No a1.f.1,No a1.f.2.1,va1_2,va1_3,va1_4] 34] O))):=by
 refine BC (n:=8) [(0,va0),(1,(Aac ba1))] func177 Z Z Z Z ?_;have hT:=Le.refl (fz w (Ha [.box ba1 [No a1.f.1,No a1.f.2.1,va1_2,va1_3,va1_4] 34] O));have d:=hL.rG H;refine AI 1 Z<|B1 1 Z<|Ag (Af Z Aaz Z B4.e)<|Ag (Ae 0 Z hL Z)<|Av h fun j e h=>A6 hL (Fz _ _ (Ao hL) (c.mono d) e) fun k i g b=>A1 1 Z<|Au ?_
 cases h
 refine Aj Z ?_;have hT:=hT.trans b;exact⟨Z,g,hT⟩
def FD:Option Int:=
 some (0)
def Fj(a0:Pv):Int->Option ((Int)⊕(Int)):=fun a=>
 if a<(a0.f.2.2.2.1.length:Int)then Bb (0<=a/\a<(a0.f.2.2.2.1.length:Int)) (Bb (0<=a/\a<=(a0.f.2.2.2.1.length:Int)) (Qq8 (Cg (a0.f.2.2.2.1.take a.toNat) (a0.f.2.2.2.1.getD a.toNat Qq1)) (fun b=>if b then Qzq Sum.inr (some (8))else Bb (BH (a+1)) (some (Sum.inl (a+1))))))else Qzq Sum.inr FD
def Hh(a0:Pv)(s:Int):Option Int:=Go.L.run (Fj a0) s
def BI(a0:Pv)(a:Bool):Option Int:=
 if a then some (6)else(if 600<(a0.f.2.2.2.2.length:Int)then some (14)else Qq8 (Fw a0.f.2.2.2.1) (fun b=>if b then some (7)else(Hh a0) (0:Int)))
def D2(a0:Pv)(a:Bool):Option Int:=
 if a then(BI a0) a else(if 0<(a0.f.2.2.2.2.length:Int)then Qq8 (BQ ([3,4]) a0) (fun b=>if !b then(BI a0) (!b)else Qq8 (BQ ([4]) a0) (fun c=>if c then(BI a0) (!decide ((a0.f.2.2.2.1.length:Int)=(a0.f.2.2.2.2.length:Int)))else(BI a0) false))else Qq8 (BQ ([4]) a0) (fun d=>if d then(BI a0) (!decide ((a0.f.2.2.2.1.length:Int)=(a0.f.2.2.2.2.length:Int)))else(BI a0) false))
def Cs(a0:Pv)(a:Bool):Option Int:=
 if a then(BI a0) a else(if 0<(a0.f.2.2.2.1.length:Int)then Qq8 (BQ ([4]) a0) (fun b=>(D2 a0) (!b))else(D2 a0) false)
def CS(a0:Pv)(a:Bool):Option Int:=
 if a then(BI a0) a else(if 0<(a0.f.2.2.1.length:Int)then Qq8 (BQ ([2]) a0) (fun b=>(Cs a0) (!b))else(Cs a0) false)
def B0(a0:Pv):Option Int:=
 Qq8 (BQ ([1,2,3,4]) a0) (fun b=>if !b then some (5)else(if a0.f.2.1=0 then(CS a0) false else Qq8 (BQ ([1]) a0) (fun a=>(CS a0) (!a))))
section
variable(w:World)(H:PH)(hH:Le H (hp w)) include hH
theorem Oh{a0:Pv}{m j o:Value}(p:AL .byte H m (a0.f.2.2.1))(a:AL .st H j (a0.f.2.2.2.1))(e:AL .tree H o (a0.f.2.2.2.2)){r:Int}(h:B0 a0=some r):
  Qqv 135 [.agg #[No a0.f.1,No a0.f.2.1,m,j,o]] w (fun v w'=>v=No r):=by
 refine AG 88 [(0,.agg #[No a0.f.1,No a0.f.2.1,m,j,o])] func135 Z fun hL=>Aq<|Cj (t:=34) Z Z hL fun w1 y bv cr _=>A1 1 Z<|AI 2 Z<|AM<|A8<|B1 1 Z<|BV [1,2,3,4] (r:=(.int .i64)) (fun _=>W9 _ _ _ _ _) (hlen:=(Ch 4)) bv (.c1 Z (.c1 Z (.c1 Z (.c1 Z .nil)))) fun v2 w2 dm bw cs bx=>Av h fun x3 bz h=>BU Z Z (CR hH [] ([1,2,3,4]) a0 bw bx (p.mono  Ai) (a.mono  Ai) (e.mono  Ai) bz) ?_;rintro _ w4 ⟨rfl,ak,ct⟩;refine A1 2 Z<|Bi h ?_ ?_<;>intro b0 h
 ·refine AI 1 Z<|Au<|Ay<|AE ?_
  cases h
  refine Aj Z ⟨ak.ext,Z⟩
 refine Bm Bool (fun z=>[(1,(Aac y)),(12,.bool z)]) (fun z wr=>AW w [.box y [No a0.f.1,No a0.f.2.1,m,j,o] 34] wr/\(BI a0) z=some r) ?_ ?_
 ·refine Bm Bool (fun q=>[(1,(Aac y)),(3,.func (.func 177) #[] #[Aac y]),(12,.bool q)]) (fun q wr=>AW w [.box y [No a0.f.1,No a0.f.2.1,m,j,o] 34] wr/\(CS a0) q=some r) ?_ ?_
  ·refine Az<|Ag (Af Z Aaz Z B4.e)<|Ag (Ae 0 Z ak Z)<|Ar 2 Z<|G9 16 h ?_ ?_<;>intro s h
   ·refine Aa s<|Ag (Ad Z)<|Aa s<|BV [1] (r:=(.int .i64)) (fun _=>LI _ _) ak (.c1 Z .nil) fun dn dp cu bl cf bm=>Aa s<|Av h fun b2 bn h=>BU Z Z (CR hH [] ([1]) a0 bl bm (p.mono  Ai) (a.mono  Ai) (e.mono  Ai) bn) ?_;rintro _ dq ⟨rfl,bo,cg⟩;refine Aa s<|Ag (Ad Z)<|Ag (Ak s Z)<|Ar 1 Z<|AP<|AH _ ⟨bo,h⟩
   iterate 4 refine Ab s ?_
   refine Ag (Am s Z)<|Ar 1 Z<|AP<|AH _ ⟨ak,h⟩
  rintro q cv ⟨af,h⟩;refine Bi h ?_ ?_<;>intro bp h
  ·refine A4<|AH _ ⟨af,h⟩
  refine Bm Bool (fun u=>[(1,(Aac y)),(3,.func (.func 177) #[] #[Aac y]),(12,.bool u)]) (fun u wr=>AW w [.box y [No a0.f.1,No a0.f.2.1,m,j,o] 34] wr/\(Cs a0) u=some r) ?_ ?_
  ·refine Az<|Ag (Af Z Aaz Z CC.e)<|Ag (Ae 0 Z af Z)<|Ag (AT p)<|Ar 2 Z<|AQ 26 h ?_ ?_<;>intro x h
   ·refine Aa x<|Ag (Ad Z)<|Aa x<|BV [2] (r:=(.int .i64)) (fun _=>LI _ _) af (.c1 Z .nil) fun dr ds cw bq ch br=>Aa x<|Av h fun b3 bs h=>BU Z Z (CR hH [] ([2]) a0 bq br (p.mono  Ai) (a.mono  Ai) (e.mono  Ai) bs) ?_;rintro _ cx ⟨rfl,ao,b4⟩;refine Aa x<|Ag (Ad Z)<|Ag (Ak x Z)<|Ar 1 Z<|AP<|AH _ ⟨ao,h⟩
   iterate 4 refine Ab x ?_
   refine Ag (Am x Z)<|Ar 1 Z<|AP<|AH _ ⟨af,h⟩
  rintro u cy ⟨ag,h⟩;refine Bi h ?_ ?_<;>intro ap h
  ·refine A4<|AH _ ⟨ag,h⟩
  refine Bm Bool (fun k=>[(1,(Aac y)),(3,.func (.func 177) #[] #[Aac y]),(12,.bool k)]) (fun k wr=>AW w [.box y [No a0.f.1,No a0.f.2.1,m,j,o] 34] wr/\(D2 a0) k=some r) ?_ ?_
  ·refine Az<|Ag (Af Z Aaz Z Cx.e)<|Ag (Ae 0 Z ag Z)<|Ag (AT a)<|Ar 2 Z<|AQ 36 h ?_ ?_<;>intro g h
   ·refine Aa g<|Ag (Ad Z)<|Aa g<|BV [4] (r:=(.int .i64)) (fun _=>LI _ _) ag (.c1 Z .nil) fun cz c0 ci aq b5 ar=>Aa g<|Av h fun bt au h=>BU Z Z (CR hH [] ([4]) a0 aq ar (p.mono  Ai) (a.mono  Ai) (e.mono  Ai) au) ?_;rintro _ c2 ⟨rfl,av,b6⟩;refine Aa g<|Ag (Ad Z)<|Ag (Ak g Z)<|Ar 1 Z<|AP<|AH _ ⟨av,h⟩
   iterate 4 refine Ab g ?_
   refine Ag (Am g Z)<|Ar 1 Z<|AP<|AH _ ⟨ag,h⟩
  rintro k cj ⟨ac,h⟩;refine Bi h ?_ ?_<;>intro aw h
  ·refine A4<|AH _ ⟨ac,h⟩
  refine Aq<|Ag (Af Z Aaz Z Ig.e)<|Ag (Ae 0 Z ac Z)<|Ag (AT e)<|Ar 2 Z<|AQ 46 h ?_ ?_<;>intro i h
  ·refine Aa i<|Ag (Ad Z)<|Aa i<|BV [3,4] (r:=(.int .i64)) (fun _=>Oy _ _ _) (hlen:=(Ch 2)) ac (.c1 Z (.c1 Z .nil)) fun c3 c4 ck ax b7 ay=>Aa i<|Av h fun bu az h=>BU Z Z (CR hH [] ([3,4]) a0 ax ay (p.mono  Ai) (a.mono  Ai) (e.mono  Ai) az) ?_;rintro _ c5 ⟨rfl,al,b8⟩;refine Aa i<|Ag (Ad Z)<|Ag (Ak i Z)<|A1 1 Z<|Bi h ?_ ?_<;>intro a2 h
   ·refine A4<|AH _ ⟨al,h⟩
   refine Az<|Ar 1 Z<|BV [4] (r:=(.int .i64)) (fun _=>LI _ _) al (.c1 Z .nil) fun c6 c7 cl a3 b9 a4=>Av h fun c8 a5 h=>BU Z Z (CR hH [] ([4]) a0 a3 a4 (p.mono  Ai) (a.mono  Ai) (e.mono  Ai) a5) ?_;rintro _ c9 ⟨rfl,ad,ca⟩;refine Ar 1 Z<|Bg 55 h ?_ ?_<;>intro b h
   ·refine Aa b<|Ag (Af Z Aaz Z Cx.e)<|Aa b<|Ag (Ae 0 Z ad Z)<|Aa b<|Ag (AT a)<|Aa b<|Ag (Af Z Aaz Z Ig.e)<|Aa b<|Ag (Ae 0 Z ad Z)<|Aa b<|Ag (AT e)<|Aa b<|Ag (Ad Z)<|Ag (Ak b Z)<|Ar 1 Z<|AP<|AH _ ⟨ad,h⟩
   iterate 7 refine Ab b ?_
   refine Ag (Am b Z)<|Ar 1 Z<|AP<|AH _ ⟨ad,h⟩
  iterate 4 refine Ab i ?_
  refine Ag (Am i Z)<|A1 1 Z<|Gw<|Az<|Ar 1 Z<|BV [4] (r:=(.int .i64)) (fun _=>LI _ _) ac (.c1 Z .nil) fun da db cm a6 cb a7=>Av h fun dc a8 h=>BU Z Z (CR hH [] ([4]) a0 a6 a7 (p.mono  Ai) (a.mono  Ai) (e.mono  Ai) a8) ?_;rintro _ dd ⟨rfl,ae,cc⟩;refine Ar 1 Z<|Bg 55 h ?_ ?_<;>intro c h
  ·refine Aa c<|Ag (Af Z Aaz Z Cx.e)<|Aa c<|Ag (Ae 0 Z ae Z)<|Aa c<|Ag (AT a)<|Aa c<|Ag (Af Z Aaz Z Ig.e)<|Aa c<|Ag (Ae 0 Z ae Z)<|Aa c<|Ag (AT e)<|Aa c<|Ag (Ad Z)<|Ag (Ak c Z)<|Ar 1 Z<|AP<|AH _ ⟨ae,h⟩
  iterate 7 refine Ab c ?_
  refine Ag (Am c Z)<|Ar 1 Z<|AP<|AH _ ⟨ae,h⟩
 rintro z de ⟨ab,h⟩;refine Bi h ?_ ?_<;>intro a9 h
 ·refine AI 1 Z<|Au<|Ay<|AE ?_
  cases h
  refine Aj Z ⟨ab.ext,Z⟩
 refine Aq<|Ag (Af Z Aaz Z Ig.e)<|Ag (Ae 0 Z ab Z)<|Ag (AT e)<|A1 2 Z<|AS h ?_ ?_<;>intro ba h
 ·refine AI 1 Z<|Au<|Ay<|AE ?_
  cases h
  refine Aj Z ⟨ab.ext,Z⟩
 refine Aq<|Ag (Af Z Aaz Z Cx.e)<|Ag (Ae 0 Z ab Z)<|Av h fun df bb h=>A6 ab (NF _ _ (Ao ab) (a.mono  Ai) bb) fun dg cn ah cd=>A1 1 Z<|Bi h ?_ ?_<;>intro bc h
 ·refine AI 1 Z<|Au<|Ay<|AE ?_
  cases h
  refine Aj Z ⟨ah.ext,Z⟩
 refine A4<|A9<|A2<|Bm Unit (fun(_:Unit)=>[]) (fun(_:Unit) wr=>AW w [.box y [No a0.f.1,No a0.f.2.1,m,j,o] 34] wr/\FD=some r) ?_ ?_
 ·refine Aq<|Ag (Af Z Aaz Z Cx.e)<|Ag (Ae 0 Z ah Z)<|Ag (AT a)<|A1 1 Z<|A8 ?_;obtain⟨aj,h⟩:=Bc h;refine Bz (Int×Nat) (fun⟨d,n⟩=>[(1,(Aac y)),(74,j),(75,No (a0.f.2.2.2.1.length:Int)),(76,No d)]) (fun⟨d,n⟩ wr=>AW w [.box y [No a0.f.1,No a0.f.2.1,m,j,o] 34] wr/\FW (Fj a0) n d=some r) (fun⟨d,n⟩=>n) (0,aj) Z ⟨ah,h⟩ ?_;rintro⟨d,nn206⟩ co ⟨aa,h⟩;obtain⟨aj,dh,rfl,h,ai⟩:=Ba h;refine AI 1 Z<|AM<|AS h ?_ ?_<;>intro bd h
  ·refine A4<|A2<|AM<|A8<|B1 1 Z<|A3 h fun am h=>Bf a d.toNat (CT am) (AD am) ?_;rintro di _ rfl be;refine Ag (AX be (hH.trans aa.arg))<|A1 2 Z<|Aq<|Ag (Af Z Aaz Z Cx.e)<|Ag (Ae 0 Z aa Z)<|Ar 1 Z<|A3 h fun bf h=>J1 a bf fun dj bg=>Ar 1 Z<|Av h fun dk bh h=>A6 aa (DR _ _ (Ao aa) (bg.mono  Ai) bh) fun dl cp an ce=>Al<|Bi h ?_ ?_<;>intro bi h
   ·refine AI 1 Z<|Au<|Ay<|AE<|BM ?_;have h:=BW.out h ai;refine Ay<|Bp ?_
    cases h
    refine Aj Z ⟨an.ext,Z⟩
   refine A4<|A9<|A2<|Az<|A3 h fun bj h=>Ag (AA bj)<|Ar 1 Z<|AP ?_;have h:=BW.again h ai;refine AN (_,_) ⟨an,h⟩
  refine Bq<|AK<|AF ?_;have h:=BW.out h ai;refine Bj<|AH () ⟨aa,h⟩
 rintro _ cq ⟨bk,h⟩;refine AI 1 Z<|Au ?_
 cases h
 refine Aj Z ⟨bk.ext,Z⟩
end
def ID(a:Int):Option (Int×Qq6):=
 some (a,(0,0))
def EM(a0:Pv)(a2:Int)(self:Pv->Int->Int->Option (Int×Qq6)):Int×Int->Option (Qq6⊕(Int×Qq6)):=fun⟨c,a⟩=>
 if a<(a0.f.2.2.2.2.length:Int)then Bb (0<=a/\a<(a0.f.2.2.2.2.length:Int)) (Bb (BH (a2+1)) (Qq8 (self (a0.f.2.2.2.2.getD a.toNat Qq1) c (a2+1)) (fun b=>if b.2.1=0/\b.2.2=0 then Bb (BH (a+1)) (some (Sum.inl (b.1,(a+1))))else Qzq Sum.inr (some (0,b.2)))))else Qzq Sum.inr (ID c)
def NH(a0:Pv)(a2:Int)(self:Pv->Int->Int->Option (Int×Qq6))(s:Int×Int):Option (Int×Qq6):=Go.L.run (EM a0 a2 self) s
def I3(self:Pv->Int->Int->Option (Int×Qq6))(a0:Pv)(a1 a2:Int):Option (Int×Qq6):=
 if(600<=a1)\/(10<a2)then Qq8 (LJ (2:Int) a1) (fun c=>some (0,c))else Qq8 (B0 a0) (fun a=>if a=0 then Bb (BH (a1+1)) ((NH a0 a2 self) ((a1+1),0))else Qq8 (LJ a a1) (fun b=>some (0,b)))
def IL(self:Pv->Int->Int->Option (Int×Qq6)):Prop:=∀(w:World) (H:PH) (hH:Le H (hp w)) {a0:Pv}{a1:Int}{a2:Int}{a:Value}{b:Value}{c:Value} (d:AL .byte H a (a0.f.2.2.1)) (e:AL .st H b (a0.f.2.2.2.1)) (g:AL .tree H c (a0.f.2.2.2.2)) {r:Int×Qq6} (h:self a0 a1 a2=some r),Ok prog 95 [.agg #[No a0.f.1,No a0.f.2.1,a,b,c],No a1,No a2] w (fun v w'=>Ext w w'/\v=.tuple #[No r.1,.agg #[No r.2.1,No r.2.2]])
def Gq:Nat->Pv->Int->Int->Option (Int×Qq6)
 | 0=>fun _ _ _=>none
 | n+1=>I3 (Gq n)
def LO:Pv->Int->Int->Option (Int×Qq6):=Gq 1000
theorem NI(self:Pv->Int->Int->Option (Int×Qq6))(hself:IL self):IL (I3 self):=by
 intro w H hH a0 a1 a2 l m d ao ap o r h;unfold IL at hself;refine AG 52 [(0,.agg #[No a0.f.1,No a0.f.2.1,l,m,d]),(1,No a1),(2,No a2)] func95 Z fun hL=>Aq<|Cj (t:=34) Z Z hL fun w1 b1 a5 bl _=>Ar 1 Z<|AZ BB.e Z a5 fun w2 b2 k bm _=>Al<|AM<|B1 3 Z<|Wb 2 2 Z Z Z Z Z Z<|Al<|AS h ?_ ?_<;>intro a6 h
 ·refine B1 1 Z<|Av h fun x5 a7 h=>A6 k (Lq _ _ (Ao k) a7) fun w6 b5 a8 bn=>Ar 1 Z<|A7 0 Z a8 Z fun w7 an bo=>Al<|Au<|AE ?_
  cases h
  refine IS (.tmp Z) (.cell Z Aaj Z BB.e (Bo (i:=0) an Z)) ⟨an.ext,Z⟩
 refine A4<|A2<|AM<|Aq<|Ag (Ax 1 Z B5.e k Z)<|Av h fun x9 a9 h=>A6 k (Oh (a0:=a0) _ _ (Ao k) (ao.mono  Ai) (ap.mono  Ai) (o.mono  Ai) a9) fun b6 bp e bf=>A1 1 Z<|AI 2 Z<|DP h ?_ ?_<;>intro aq h
 ·refine B1 2 Z<|Av h fun b7 ar h=>A6 e (Lq _ _ (Ao e) ar) fun b8 bq au bg=>Ar 1 Z<|A7 0 Z au Z fun b9 y bh=>Al<|Au<|AE ?_
  cases h
  refine IS (.tmp Z) (.cell Z Aaj Z BB.e (Bo (i:=0) y Z)) ⟨y.ext,Z⟩
 refine A4<|A2<|B1 1 Z<|A3 h fun av h=>Ag (AA av)<|A1 1 Z<|Bm Int (fun c=>[(7,(Aac b2)),(9,No c)]) (fun c wr=>AW w [.box b2 [No 0,No 0] 27,.box b1 [No a0.f.1,No a0.f.2.1,l,m,d] 34] wr/\ID c=some r) ?_ ?_
 ·refine Aq<|Ag (Af Z Aaz Z Ig.e)<|Ag (Ae 1 Z e Z)<|Ag (AT o)<|A1 1 Z<|A8 ?_;obtain⟨z,h⟩:=Bc h;refine Bz (Int×Int×Nat) (fun⟨b,a,n⟩=>[(2,No a2),(7,(Aac b2)),(9,No b),(31,d),(32,No (a0.f.2.2.2.2.length:Int)),(33,No a)]) (fun⟨b,a,n⟩ wr=>AW w [.box b2 [No 0,No 0] 27,.box b1 [No a0.f.1,No a0.f.2.1,l,m,d] 34] wr/\FW (EM a0 a2 self) n (b,a)=some r) (fun⟨b,a,n⟩=>n) ((a1+1),0,z) Z ⟨e,h⟩ ?_;rintro⟨b,a,nn92⟩ br ⟨p,h⟩;obtain⟨z,ca,rfl,h,s⟩:=Ba h;refine AI 1 Z<|AM<|AS h ?_ ?_<;>intro aw h
  ·refine A4<|A2<|AM<|A8<|Aq<|A3 h fun aa h=>Bf o a.toNat (CT aa) (AD aa) ?_;rintro cb _ e96t0 ab;obtain⟨_,_,rfl,rfl,⟨_,_,rfl,rfl,⟨_,_,rfl,⟨e96v2,rfl,e96h2⟩,⟨_,_,rfl,⟨e96v3,rfl,e96h3⟩,⟨e96v4,rfl,e96h4⟩⟩⟩⟩⟩:=Go.E.Rp.Ex e96t0;have bs:=RH.mk e96t0 ab;refine Ag (Ce ab (hH.trans p.arg))<|AZ B5.e Z p fun cc cd ax bi _=>A7 0 Z ax Z (h1:=(BP Z (BP Z (BP e96h2.one (BP e96h3.one (BP e96h4.one Mx)))))) fun ce ay bj=>Al<|Aq<|AZ BB.e Z ay fun bt bu g ba _=>Al<|Aq<|Ag (Ax 1 Z B5.e g Z)<|Ar 2 Z<|A3 h fun ad h=>Ag (AA ad)<|Av h fun az ae h=>A6 g (hself _ _ (Ao g) (e96h2.mono  Ai) (e96h3.mono  Ai) (e96h4.mono  Ai) ae) fun bv bk af bb=>Ar 4 Z<|A7 0 Z af Z fun bw j bc=>Al<|Aq<|Ag (Ax 0 Z BB.e j Z)<|Ag (B7 (fun _=>Dx _)) ?_
   refine Ag (MP Mq (OK _ _ _ _))<|Al<|DP h ?_ ?_<;>intro ag h
   ·refine CI (.q 0 (.q 1 (.tail 2))) mixed V (fun bx ah=>?_);have u:=j.call ah;refine B9 Z (Ax 0 Z BB.e u Z) Z<|BJ 1 Z<|B8 (fun bz ai=>?_);have aj:=u.call ai;refine A7 2 Z aj Z fun b0 v bd=>Al<|Au<|Ay<|AE<|BM ?_;have h:=BW.out h s;refine Ay<|Bp ?_
    cases h
    refine IS (.tmp Z) (.cell Z Aaj Z BB.e (Bo (i:=2) v Z)) ⟨v.ext,Z⟩
   refine A4<|A9<|A2<|Az<|A3 h fun ak h=>Ag (AA ak)<|Ar 1 Z<|AP ?_;have al:=j.AR (i:=0) Z;have am:=al.AR (i:=0) Z;have h:=BW.again h s;refine AN (_,_,_) ⟨am,h⟩
  refine Bq<|AK<|AF ?_;have h:=BW.out h s;refine Bj<|AH _ ⟨p,h⟩
 rintro c b3 ⟨a3,h⟩;refine B1 1 Z<|Ag (B7 (fun _=>Dx _))<|Ar 1 Z<|A7 0 Z a3 Z fun b4 x be=>Al<|Au ?_
 cases h
 refine IS (.tmp Z) (.cell Z Aaj Z BB.e (Bo (i:=0) x Z)) ⟨x.ext,Z⟩
theorem OV(n:Nat):IL (Gq n):=by
 induction n with
 | zero=>unfold IL;intros;rename_i h;cases h
 | succ n ih=>exact NI (Gq n) ih
section
variable(w:World)(H:PH)(hH:Le H (hp w)) include hH
theorem Qm{a0:Pv}{a1 a2:Int}{a b c:Value}(d:AL .byte H a (a0.f.2.2.1))(e:AL .st H b (a0.f.2.2.2.1))(g:AL .tree H c (a0.f.2.2.2.2)){r:Int×Qq6}(h:LO a0 a1 a2=some r):Ok prog 95 [.agg #[No a0.f.1,No a0.f.2.1,a,b,c],No a1,No a2] w (fun v w'=>Ext w w'/\v=.tuple #[No r.1,.agg #[No r.2.1,No r.2.2]]):=OV 1000 w H hH d e g h
def L2(b:Aae)(a:Int):Option Aae:=
 Bb (Go.E.Gx 1 (b.length+([(Go.L.u8 a)]).length)) (some ((b++[(Go.L.u8 a)])))
def Gd:Aae×Int->Option ((Aae×Int)⊕(Aae)):=fun⟨b,a⟩=>
 if 128<=a then Bb (Go.E.Gx 1 (b.length+([((Go.L.u8 a) ||| (128:UInt8))]).length)) (some (Sum.inl ((b++[((Go.L.u8 a) ||| (128:UInt8))]),(a / 128))))else Qzq Sum.inr (L2 b a)
def N2(s:Aae×Int):Option Aae:=Go.L.run Gd s
def GN(a0:Int):Option Aae:=
 Bb ((0<=(IntKind.u64.wrap ((IntKind.u64.wrap a0) * 2))/\(IntKind.u64.wrap ((IntKind.u64.wrap a0) * 2))<2 ^ 64)/\(0<=(IntKind.u64.wrap (a0 / 9223372036854775808))/\(IntKind.u64.wrap (a0 / 9223372036854775808))<2 ^ 64)) (N2 (([]:Aae),(((IntKind.u64.wrap ((IntKind.u64.wrap a0) * 2)).toNat ^^^ (IntKind.u64.wrap (a0 / 9223372036854775808)).toNat:Nat):Int)))
theorem JE{a0:Int}{r:Aae}(h:GN a0=some r):
  Qqv 136 [No a0] w (fun v w'=>∃u0,v=u0/\Cv 5 .byte H w w' u0 r):=by
 refine AG 27 [(0,No a0)] func136 Z fun hL=>AI 1 Z<|B1 1 Z<|Ag (EA Z)<|Ag (Sb (c:=1) (m:=2) Qqb Z)<|Ar 1 Z<|Ag (Ot (c:=63) (m:=9223372036854775808) Z Z Z Qqb)<|Ag (EA Z)<|A3 h fun an h=>Ag (Ry Z an)<|A1 1 Z<|B1 1 Z ?_;obtain⟨ao,av,ap⟩:=CF .byte H 5 hL;refine Al<|Bm (Aae×Int×Value×Qq5) (fun⟨o,d,p,j⟩=>[(3,.int .u64 d),(4,p)]) (fun⟨o,d,p,j⟩ wr=>DE w [.row p 5 1 (o).length j] wr fun Oz=>A5 .byte (gz H w wr Oz) o j/\L2 o d=some r) ?_ ?_
 ·refine A8 ?_;obtain⟨s,h⟩:=Bc h;refine Bz (Aae×Int×Value×Qq5×Nat) (fun⟨f,a,g,e,n⟩=>[(3,.int .u64 a),(4,g)]) (fun⟨f,a,g,e,n⟩ wr=>DE w [.row g 5 1 (f).length e] wr fun Oz=>A5 .byte (gz H w wr Oz) f e/\FW Gd n (f,a)=some r) (fun⟨f,a,g,e,n⟩=>n) (([]:Aae),(((IntKind.u64.wrap ((IntKind.u64.wrap a0) * 2)).toNat ^^^ (IntKind.u64.wrap (a0 / 9223372036854775808)).toNat:Nat):Int),Aaa,[],s) Z ⟨ao,ap,h⟩ ?_;rintro⟨f,a,g,e,nn33⟩ aw ⟨t,k,h⟩;obtain⟨s,a2,rfl,h,u⟩:=Ba h;refine AM<|AI 2 Z<|AS h ?_ ?_<;>intro aa h
  ·refine A4<|A2<|AM<|A8<|Az<|Ar 2 Z<|Ag (EA (Gm _))<|Ag (SN (b:=128) Z Z Z)<|BV [((Go.L.u8 a) ||| (128:UInt8))] (r:=.byte) (fun _=>Kh _ _) t (.c1 Z .nil) fun a3 a4 ax ab y ac=>A3 h fun ad h=>?_;have k:=k.mono (Ac y);refine BL (r:=.byte) 0 f [((Go.L.u8 a) ||| (128:UInt8))] Z Aag ab Z k ac ad fun aq a5 ae af ar ag=>Ar 1 Z<|AP<|A9<|A2<|Az<|Ar 1 Z<|Ag (Ot (c:=7) (m:=128) Z Z Z Qqb)<|Ar 1 Z<|AP ?_;have h:=BW.again h u;refine AN (_,_,_,_,_) ⟨af,ag,h⟩
  refine Bq<|AK<|AF ?_;have h:=BW.out h u;refine Bj<|AH (_,_,_,_) ⟨t,k,h⟩
 rintro⟨o,d,p,j⟩ ay ⟨ah,q,h⟩;refine B1 2 Z<|Ag (EA (Gm _))<|BV [(Go.L.u8 d)] (r:=.byte) (fun _=>Kh _ _) ah (.c1 Z .nil) fun a6 a7 az ai z aj=>A3 h fun ak h=>?_;have q:=q.mono (Ac z);refine BL (r:=.byte) 0 o [(Go.L.u8 d)] Z Aag ai Z q aj ak fun a8 a9 a1 x au al=>A1 1 Z<|Au ?_
 cases h
 refine Aj Z ⟨x.ext,_,Z,(x.Hn hH (i:=0) Z al)⟩
def L3(a0:Aae):Option Aae:=
 Qq8 (GN (a0.length:Int)) (fun a=>Bb (Go.E.Gx 1 (a.length+a0.length)) (some ((a++a0))))
theorem NO{a0:Aae}{a:Value}(b:AL .byte H a a0){r:Aae}(h:L3 a0=some r):
  Qqv 137 [a] w (fun v w'=>∃g,v=g/\Cv 5 .byte H w w' g r):=by
 refine AG 8 [(0,a)] func137 Z fun hL=>AI 1 Z<|B1 1 Z<|Ag (AT b)<|Av h fun s j h=>Bv hL (JE _ _ (Ao hL) j) ?_;rintro t z ⟨_,rfl,c⟩ k d f;obtain⟨x,d,f,o⟩:=c.take hH hL k;refine Ar 1 Z<|A3 h fun p h=>BL (r:=.byte) 0 s a0 Z Aag d Z o (b.mono  Ai) p fun v3 w3 y e u q=>A1 1 Z<|Au ?_
 cases h
 refine Aj Z ⟨e.ext,_,Z,(e.Hn hH (i:=0) Z q)⟩
end
def EN(a0:Pv)(a:Int)(self:Pv->Option Aae)(b:Aae):Option ((Aae×Int)⊕(Aae)):=
 Qq8 (self (a0.f.2.2.2.2.getD a.toNat Qq1)) (fun c=>Bb (Go.E.Gx 1 (b.length+c.length)) (Bb (BH (a+1)) (some (Sum.inl ((b++c),(a+1))))))
def HW(a:Aae):Option Aae:=
 some a
def Ev(a0:Pv)(self:Pv->Option Aae):Aae×Int->Option ((Aae×Int)⊕(Aae)):=fun⟨b,a⟩=>
 if a<(a0.f.2.2.2.2.length:Int)then Bb (0<=a/\a<(a0.f.2.2.2.2.length:Int)) (if a0.f.1=4 then Bb (0<=a/\a<(a0.f.2.2.2.1.length:Int)) (Bb ((a0.f.2.2.2.1.getD a.toNat Qq1).length<=9223372036854775807) (Qq8 (L3 (a0.f.2.2.2.1.getD a.toNat Qq1)) (fun c=>Bb (Go.E.Gx 1 (b.length+c.length)) ((EN a0 a self) (b++c)))))else(EN a0 a self) b)else Qzq Sum.inr (HW b)
def EO(a0:Pv)(self:Pv->Option Aae)(s:Aae×Int):Option Aae:=Go.L.run (Ev a0 self) s
def EW(self:Pv->Option Aae)(a0:Pv):Option Aae:=
 Qq8 (GN a0.f.1) (fun a=>if a0.f.1=1 then Qq8 (GN a0.f.2.1) (fun d=>Bb (Go.E.Gx 1 (a.length+d.length)) (some ((a++d))))else(if a0.f.1=2 then Qq8 (L3 a0.f.2.2.1) (fun b=>Bb (Go.E.Gx 1 (a.length+b.length)) (some ((a++b))))else Qq8 (GN (a0.f.2.2.2.2.length:Int)) (fun c=>Bb (Go.E.Gx 1 (a.length+c.length)) ((EO a0 self) ((a++c),0)))))
def HX(self:Pv->Option Aae):Prop:=∀(w:World) (H:PH) (hH:Le H (hp w)) {a0:Pv}{a:Value}{b:Value}{c:Value} (e:AL .byte H a (a0.f.2.2.1)) (g:AL .st H b (a0.f.2.2.2.1)) (i:AL .tree H c (a0.f.2.2.2.2)) {r:Aae} (h:self a0=some r),Ok prog 96 [.agg #[No a0.f.1,No a0.f.2.1,a,b,c]] w (fun v w'=>Ext w w'/\∃d,v=d/\Cv 5 .byte H w w' d r)
def Dv:Nat->Pv->Option Aae
 | 0=>fun _=>none
 | n+1=>EW (Dv n)
def Lc:Pv->Option Aae:=Dv 1000
theorem N3(self:Pv->Option Aae)(hself:HX self):HX (EW self):=by
 intro w H hH a0 ad ae s b9 ca an r h;unfold HX at hself;refine AG 57 [(0,.agg #[No a0.f.1,No a0.f.2.1,ad,ae,s])] func96 Z fun hL=>Aq<|Cj (t:=34) Z Z hL fun w1 b1 ap db _=>A1 1 Z<|Aq<|Ag (Af Z Aaz Z B4.e)<|Ag (Ae 0 Z ap Z)<|Av h fun x2 ct h=>Bv ap (JE _ _ (Ao ap) ct) ?_;rintro dc w3 ⟨_,rfl,be⟩ cu d cb;obtain⟨ds,d,cb,k⟩:=be.take hH ap cu;refine A1 1 Z<|AM<|Aq<|Ag (Af Z Aaz Z B4.e)<|Ag (Ae 1 Z d Z)<|Al<|A8<|AI 2 Z<|AS h ?_ ?_<;>intro cv h
 ·refine B1 1 Z<|Ag (Af Z Aaz Z B4.e)<|Ag (Ae 1 Z d Z)<|Av h fun x6 cw h=>Bv d (JE _ _ (Ao d) cw) ?_;rintro de w7 ⟨_,rfl,bf⟩ cx cy cc;have af:=bf.Dj hH d cx;have k:=k.mono (Ac cc);refine A3 h fun cz h=>BL (r:=.byte) 0 x2 x6 Z Aag cy Z k af cz ?_;intro v8 w8 dt b7 cd c0;have af:=af.mono (Ac cd);refine A1 1 Z<|Au<|Ay<|AE ?_
  cases h
  refine Aj Z ⟨b7.ext,_,Z,(b7.Hn hH (i:=0) Z c0)⟩
 refine AI 2 Z<|AS h ?_ ?_<;>intro ce h
 ·refine B1 1 Z<|Ag (Af Z Aaz Z CC.e)<|Ag (Ae 1 Z d Z)<|Av h fun c1 cf h=>Bv d (NO _ _ (Ao d) (b9.mono  Ai) cf) ?_;rintro c5 du ⟨_,rfl,az⟩ cg ch bg;have aa:=az.Dj hH d cg;have k:=k.mono (Ac bg);refine A3 h fun ci h=>BL (r:=.byte) 0 x2 c1 Z Aag ch Z k aa ci ?_;intro dv dw df a1 bh cj;have aa:=aa.mono (Ac bh);refine A1 1 Z<|Au<|Ay<|AE ?_
  cases h
  refine Aj Z ⟨a1.ext,_,Z,(a1.Hn hH (i:=0) Z cj)⟩
 refine A4<|A9<|A2<|B1 1 Z<|Ag (Af Z Aaz Z Ig.e)<|Ag (Ae 1 Z d Z)<|Ag (AT an)<|Av h fun b8 ck h=>Bv d (JE _ _ (Ao d) ck) ?_;rintro c6 dx ⟨_,rfl,a2⟩ cl cm bi;have ab:=a2.Dj hH d cl;have k:=k.mono (Ac bi);refine A3 h fun cn h=>BL (r:=.byte) 0 x2 b8 Z Aag cm Z k ab cn ?_;intro c2 dy co a3 bj cp;have ab:=ab.mono (Ac bj);refine A1 1 Z<|Bm (Aae×Value×Qq5) (fun⟨ak,ag,x⟩=>[(3,ag)]) (fun⟨ak,ag,x⟩ wr=>DE w [.row ag 5 1 (ak).length x,.box b1 [No a0.f.1,No a0.f.2.1,ad,ae,s] 34] wr fun Oz=>A5 .byte (gz H w wr Oz) ak x/\HW ak=some r) ?_ ?_
 ·refine Aq<|Ag (Af Z Aaz Z Ig.e)<|Ag (Ae 1 Z a3 Z)<|Ag (AT an)<|A1 1 Z<|A8 ?_;obtain⟨ao,h⟩:=Bc h;refine Bz (Aae×Int×Value×Qq5×Nat) (fun⟨e,a,g,c,n⟩=>[(1,(Aac b1)),(3,g),(32,s),(33,No (a0.f.2.2.2.2.length:Int)),(34,No a)]) (fun⟨e,a,g,c,n⟩ wr=>DE w [.row g 5 1 (e).length c,.box b1 [No a0.f.1,No a0.f.2.1,ad,ae,s] 34] wr fun Oz=>A5 .byte (gz H w wr Oz) e c/\FW (Ev a0 self) n (e,a)=some r) (fun⟨e,a,g,c,n⟩=>n) ((x2++b8),0,c2,co,ao) Z ⟨a3,cp,h⟩ ?_;rintro⟨e,a,g,c,nn108⟩ c7 ⟨ah,b,h⟩;obtain⟨ao,cq,rfl,h,aq⟩:=Ba h;refine AI 1 Z<|AM<|AS h ?_ ?_<;>intro bk h
  ·refine A4<|A2<|AM<|A8<|B1 1 Z<|A3 h fun ar h=>Bf an a.toNat (CT ar) (AD ar) ?_;rintro dg _ e112t0 au;obtain⟨_,_,rfl,rfl,⟨_,_,rfl,rfl,⟨_,_,rfl,⟨e112v2,rfl,e112h2⟩,⟨_,_,rfl,⟨e112v3,rfl,e112h3⟩,⟨e112v4,rfl,e112h4⟩⟩⟩⟩⟩:=Go.E.Rp.Ex e112t0;have c8:=RH.mk e112t0 au;refine Ag (Ce au (hH.trans ah.arg))<|AZ B5.e Z ah ?_;intro dh a4 bl a5 _;have b:=b.mono (Ac a5);refine Ar 1 Z<|A7 0 Z bl Z (h1:=(BP Z (BP Z (BP e112h2.one (BP e112h3.one (BP e112h4.one Mx)))))) ?_;intro di o a6;have b:=b.mono (Ac a6);refine Al ?_
   refine Bm (Aae×Value×Qq5) (fun⟨j,y,p⟩=>[(1,(Aac b1)),(3,y),(5,(Aac a4)),(32,s),(33,No (a0.f.2.2.2.2.length:Int)),(34,No a)]) (fun⟨j,y,p⟩ wr=>DE w [.box a4 [No ((a0.f.2.2.2.2.getD a.toNat Qq1).f.1),No ((a0.f.2.2.2.2.getD a.toNat Qq1).f.2.1),e112v2,e112v3,e112v4] 34,.row y 5 1 (j).length p,.box b1 [No a0.f.1,No a0.f.2.1,ad,ae,s] 34] wr fun Oz=>A5 .byte (gz H w wr Oz) j p/\(EN a0 a self) j=some cq) ?_ ?_
   ·refine Aq<|Ag (Af Z Aaz Z B4.e)<|Ag (Ae 2 Z o Z)<|A1 1 Z<|AS h ?_ ?_<;>intro bm h
    ·refine Az<|Ar 1 Z<|Ag (Af Z Aaz Z Cx.e)<|Ag (Ae 2 Z o Z)<|Ar 1 Z<|A3 h fun av h=>Bf ca a.toNat (CT av) (AD av) ?_;rintro dj _ rfl bn;refine Ag (AX bn (hH.trans o.arg))<|A3 h fun bo h=>YU (H:=H) o bo ?_;intro dk dl c9 ai a7 q;have b:=b.mono (Ac a7);refine Av h fun a8 bp h=>Bv ai (NO _ _ (Ao ai) q bp) ?_;rintro c3 dm ⟨_,rfl,aw⟩ bq br al;have u:=aw.Dj hH ai bq;have b:=b.mono (Ac al);have q:=q.mono (Ac al);refine A3 h fun bs h=>BL (r:=.byte) 1 e a8 Z Aag br Z b u bs ?_;intro cr dn bt bu am bv;have q:=q.mono (Ac am);have u:=u.mono (Ac am);refine Ar 1 Z<|AP<|AH (_,_,_) ⟨bu,bv,h⟩
    refine A4<|AH (_,_,_) ⟨o,b,h⟩
   rintro⟨j,y,p⟩ da ⟨z,ac,h⟩;refine Az<|Ar 1 Z<|Ag (Ax 0 Z B5.e z Z)<|Av h fun a9 bw h=>Bv z (hself _ _ (Ao z) (e112h2.mono  Ai) (e112h3.mono  Ai) (e112h4.mono  Ai) bw) ?_;rintro c4 dp ⟨_,rfl,ax⟩ bx bz ba;have v:=ax.Dj hH z bx;have ac:=ac.mono (Ac ba);refine A3 h fun b0 h=>BL (r:=.byte) 1 j a9 Z Aag bz Z ac v b0 ?_;intro cs dq b2 b3 bb aj;have v:=v.mono (Ac bb);refine Ar 1 Z<|AP<|A9<|A2<|Az<|A3 h fun b4 h=>Ag (AA b4)<|Ar 1 Z<|AP ?_;have b5:=b3.AR (i:=0) Z;have aj:=aj.mono (Ac (Ah (i:=0) Z));have h:=BW.again h aq;refine AN (_,_,_,_,_) ⟨b5,aj,h⟩
  refine Bq<|AK<|AF ?_;have h:=BW.out h aq;refine Bj<|AH (_,_,_) ⟨ah,b,h⟩
 rintro⟨ak,ag,x⟩ dr ⟨bc,b6,h⟩;refine AI 2 Z<|Au ?_
 cases h
 refine Aj Z ⟨bc.ext,_,Z,(bc.Hn hH (i:=0) Z b6)⟩
theorem O5(n:Nat):HX (Dv n):=by
 induction n with
 | zero=>unfold HX;intros;rename_i h;cases h
 | succ n ih=>exact N3 (Dv n) ih
section
variable(w:World)(H:PH)(hH:Le H (hp w)) include hH
theorem Py{a0:Pv}{a b c:Value}(d:AL .byte H a (a0.f.2.2.1))(e:AL .st H b (a0.f.2.2.2.1))(g:AL .tree H c (a0.f.2.2.2.2)){r:Aae}(h:Lc a0=some r):Ok prog 96 [.agg #[No a0.f.1,No a0.f.2.1,a,b,c]] w (fun v w'=>Ext w w'/\∃i,v=i/\Cv 5 .byte H w w' i r):=O5 1000 w H hH d e g h
def Ld(a0:Pv):Option (Aae×Qq6):=
 Qq8 (LO a0 (0:Int) (1:Int)) (fun b=>if b.2.1=0/\b.2.2=0 then Qq8 (Lc a0) (fun a=>if 4000<(a.length:Int)then Qq8 (LJ (14:Int) (-1:Int)) (fun c=>some ([],c))else some (a,(0,0)))else some ([],b.2))
theorem Pz{a0:Pv}{c d e:Value}(k:AL .byte H c (a0.f.2.2.1))(l:AL .st H d (a0.f.2.2.2.1))(m:AL .tree H e (a0.f.2.2.2.2)){r:Aae×Qq6}(h:Ld a0=some r):
  Qqv 61 [.agg #[No a0.f.1,No a0.f.2.1,c,d,e]] w (fun v w'=>∃u0,v=.tuple #[u0,.agg #[No r.2.1,No r.2.2]]/\Cv 5 .byte H w w' u0 (r.1)):=by
 refine AG 24 [(0,.agg #[No a0.f.1,No a0.f.2.1,c,d,e])] func61 Z fun hL=>Aq<|Cj (t:=34) Z Z hL fun w1 b1 ai au _=>Ar 1 Z<|AZ BB.e Z ai fun w2 b2 o av _=>Al<|AM<|Aq<|Ag (Ax 1 Z B5.e o Z)<|Av h fun x3 aj h=>A6 o (Qm (a0:=a0) _ _ (Ao o) (k.mono  Ai) (l.mono  Ai) (m.mono  Ai) aj) fun w4 a2 ak aw=>Ar 3 Z<|AZ BB.e Z ak fun w5 b5 al ax _=>Ar 1 Z<|A7 0 Z al Z fun w6 b ay=>Al<|Aq<|Ag (Ax 0 Z BB.e b Z)<|Ag (B7 (fun _=>Dx _))<|Ag (MP Mq (OK _ _ _ _))<|Al<|DP h ?_ ?_<;>intro am h
 ·refine CI (.q 0 (.q 1 (.tail 2))) mixed V (fun w9 an=>?_);have p:=b.call an;refine B9 Z (Ax 0 Z BB.e p Z) Z<|BJ 1 Z<|B8 (fun a3 aa=>?_);have ab:=p.call aa;refine A7 1 Z ab Z fun a4 s ao=>Al<|Au<|AE ?_
  cases h
  refine IS (.tmp Z) (.cell Z Aaj Z BB.e (Bo (i:=1) s Z)) ⟨s.ext,_,Z,Cv.nil⟩
 refine A4<|A2<|Aq<|Ag (Ax 2 Z B5.e b Z)<|Av h fun a5 ac h=>Bv b (Py (a0:=a0) _ _ (Ao b) (k.mono  Ai) (l.mono  Ai) (m.mono  Ai) ac) ?_;rintro ap a6 ⟨_,rfl,u⟩ ad a y;obtain⟨az,a,y,g⟩:=u.take hH b ad;refine A1 1 Z<|AM<|B1 1 Z<|Ag (Ng 0 Z a Z)<|A1 1 Z<|AS h ?_ ?_<;>intro ae h
 ·refine Aq<|Av h fun a7 af h=>A6 a (Lq _ _ (Ao a) af) fun a8 a1 ag aq=>Ar 1 Z<|A7 2 Z ag Z fun a9 x ar=>Al<|Au<|AE ?_
  cases h
  refine IS (.tmp Z) (.cell Z Aaj Z BB.e (Bo (i:=2) x Z)) ⟨x.ext,_,Z,Cv.nil⟩
 refine A4<|A2<|B1 1 Z<|Ag (B7 (fun _=>Dx _))<|Ar 1 Z<|A7 2 Z a Z fun ba j z=>Al<|Au ?_
 cases h
 refine IS (.tmp Z) (.cell Z Aaj Z BB.e (Bo (i:=2) j Z)) ?_;have g:=g.mono (Ac z);exact⟨j.ext,_,Z,(j.Hn hH (i:=0) Z g)⟩
def Cn(a0:Pv):Option (Qq6):=
 Qq8 (Ld a0) (fun a=>some (a.2))
theorem HJ(a0:Pv){a b c:Value}(j:AL .byte H a (a0.f.2.2.1))(k:AL .st H b (a0.f.2.2.2.1))(l:AL .tree H c (a0.f.2.2.2.2)){r:Qq6}(h:Cn a0=some r):
  Qqv 21 [.agg #[No a0.f.1,No a0.f.2.1,a,b,c]] w (fun v w'=>v=.agg #[No r.1,No r.2]):=by
 refine AG 11 [(0,.agg #[No a0.f.1,No a0.f.2.1,a,b,c])] func21 Z fun hL=>Aq<|Cj (t:=34) Z Z hL fun w1 b1 m u _=>AZ BB.e Z m fun w2 b2 d x _=>Al<|Aq<|Ag (Ax 1 Z B5.e d Z)<|Av h fun x3 o h=>Bv d (Pz (a0:=a0) _ _ (Ao d) (j.mono  Ai) (k.mono  Ai) (l.mono  Ai) o) ?_;rintro _ w4 ⟨y,rfl,s⟩ ad p z;refine Ar 3 Z<|AZ BB.e Z p fun w5 b5 q aa _=>Ar 1 Z<|A7 0 Z q Z fun w6 e ab=>Al<|Aq<|Ag (Ax 0 Z BB.e e Z)<|A7 1 Z e Z fun w7 g ac=>Al<|Au ?_
 cases h
 refine DO (.cell Z Aaj Z BB.e (Bo (i:=1) g Z)) ⟨g.ext,Z⟩
end
def IE(_a0:Pv)(_a1:Int×Int):Option Unit:=
 some (())
theorem MD{a w:World}{H:PH}(_hH:Le H (hp a)){O:List BN}{a0:Pv}{a1:Int×Int}{ba0:Nat}{va0_2 va0_3 va0_4:Value}{ba1:Nat}(hL:AW a (Ha [.box ba0 [No a0.f.1,No a0.f.2.1,va0_2,va0_3,va0_4] 34,.box ba1 [No a1.1,No a1.2] 27] O) w)(_ha0_2:AL .byte (gz H a w (Ha [.box ba0 [No a0.f.1,No a0.f.2.1,va0_2,va0_3,va0_4] 34,.box ba1 [No a1.1,No a1.2] 27] O)) va0_2 (a0.f.2.2.1))(_ha0_3:AL .st (gz H a w (Ha [.box ba0 [No a0.f.1,No a0.f.2.1,va0_2,va0_3,va0_4] 34,.box ba1 [No a1.1,No a1.2] 27] O)) va0_3 (a0.f.2.2.2.1))(_ha0_4:AL .tree (gz H a w (Ha [.box ba0 [No a0.f.1,No a0.f.2.1,va0_2,va0_3,va0_4] 34,.box ba1 [No a1.1,No a1.2] 27] O)) va0_4 (a0.f.2.2.2.2)){r:Unit}(h:IE a0 a1=some r):
  YX prog 17 [Aac ba0,Aac ba1] .returning .returning w (fun w'=>AW a (Ha [.box ba0 [No a0.f.1,No a0.f.2.1,va0_2,va0_3,va0_4] 34,.box ba1 [No a1.1,No a1.2] 27] O) w'/\Le (fz w (Ha [.box ba0 [No a0.f.1,No a0.f.2.1,va0_2,va0_3,va0_4] 34,.box ba1 [No a1.1,No a1.2] 27] O)) (fz w' (Ha [.box ba0 [No a0.f.1,No a0.f.2.1,va0_2,va0_3,va0_4] 34,.box ba1 [No a1.1,No a1.2] 27] O))):=by
 refine Qc (pv:=.nilIface) (k:=13) [(0,(Aac ba0)),(1,(Aac ba1))] func17 Z Z Z Z Z Z .no ?_;have hT:=Le.refl (fz w (Ha [.box ba0 [No a0.f.1,No a0.f.2.1,va0_2,va0_3,va0_4] 34,.box ba1 [No a1.1,No a1.2] 27] O));refine A8<|Aq<|Ag Vc<|Al<|Fy<|Az<|Ar 1 Z<|AP<|A9 ?_
 cases h
 refine Et ⟨hL,hT⟩
def HY(a0:(List AaE))(a1:Aae):Option (Pv×Qq6):=
 Qq8 (Dz a0) (fun c=>if c.1=0/\c.2=0 then(if 1000<(a1.length:Int)then none else Qq8 (KM a0) (fun d=>Qq8 (H3 (a0,d,a1,0) (0:Int)) (fun a=>if a.2.2.2.2<(a1.length:Int)then none else Qq8 (Cn a.1) (fun b=>if b.1=0/\b.2=0 then Qq8 (IE a.1 (0,0)) (fun e=>some (a.1,(0,0)))else none))))else none)
section
variable(w:World)(H:PH)(hH:Le H (hp w)) include hH
theorem LP(hU:Jm H){a0:(List AaE)}{a1:Aae}{g o:Value}(p:AL AaK H g a0)(l:AL .byte H o a1){r:Pv×Qq6}(h:HY a0 a1=some r):
  Qqv 6 [.agg #[g],o] w (fun v w'=>∃u0 u1 u2,v=.tuple #[.agg #[No r.1.f.1,No r.1.f.2.1,u0,u1,u2],.agg #[No r.2.1,No r.2.2]]/\AL .byte (un H (nw w w')) u0 (r.1.f.2.2.1)/\AL .st (un H (nw w w')) u1 (r.1.f.2.2.2.1)/\AL .tree (un H (nw w w')) u2 (r.1.f.2.2.2.2)):=by
 refine QN (n:=49) [(0,.agg #[g]),(1,o)] func6 Z Z Z Z ?_;have hL:=AW.start w;refine Aq<|Cj (t:=25) Z Z hL fun w1 b1 bj b0 _=>AZ B5.e Z bj fun w2 b2 bl b4 _=>AZ BB.e Z bl fun w3 b3 ac b5 _=>Al<|AM<|Aq<|Ag (Ax 2 Z HQ.e ac Z)<|Av h fun x4 bn h=>A6 ac (Hf _ _ (Ao ac) (hU.mono  Ai) a0 (p.mono  Ai) bn) fun w5 cb bo b7=>AZ BB.e Z bo fun w6 b6 bp b8 _=>A7 0 Z bp Z fun w7 ax b9=>Al<|Aq<|Ag (Ax 0 Z BB.e ax Z)<|Ag (B7 (fun _=>Dx _))<|Ag (MP Mq (OK _ _ _ _))<|Al<|DP h ?_ ?_<;>intro bq h
 ·cases h
 refine A4<|A2<|AM<|B1 1 Z<|Ag (AT l)<|A1 1 Z<|AS h ?_ ?_<;>intro a4 h
 ·cases h
 refine A4<|A2<|B1 1 Z<|Tw Z<|Al<|CI (.q 0 (.q 1 (.q 3 (.h 2 (.q 4 (.tail 5)))))) mixed V (fun cc a5=>?_);have s:=ax.call a5
 iterate 2 refine B9 Z (Ax 3 Z HQ.e s Z) Z ?_
 refine BJ 1 Z<|Av h fun br a6 h=>IQ Z Z Z (fun bs u=>Og _ _ (Ao (s.call u)) (hU.mono  Ai) (p.mono  Ai) a6) ?_;rintro bs bx cd u ad ⟨_,rfl,ae⟩;have af:=s.call u;have ag:=af.call ad;have e:=ae.Dj hH af ad;refine B9 Z (B7 (fun _=>Sm _ _ e.one _ l.one _)) Z<|B8 (fun ce ah=>?_);have a7:=ag.call ah;have al:=Bd ag ah;refine Cj (t:=60) Z Z a7 fun cf ay a8 am _=>A1 1 Z<|B1 1 Z<|Av h fun k a9 h=>?_;have e:=e.mono (Ac (al.trans am));refine BO (LZ (a0:=(a0,br,a1,0)) (a1:=0) (O:=[.box b6 [No x4.1,No x4.2] 27,.box b3 [No 0,No 0] 27,.box b2 [No 0,No 0,Aaa,Aaa,Aaa] 34,.box b1 [g] 25]) hH hU a8 (p.mono  Ai) e (l.mono  Ai) a9) ?_;rintro _ cg ⟨an,ao,ap,y,z,aa,rfl,ba,bz,b,c,d,bt,bu,bv⟩;refine A7 3 Z ba Z (h1:=(BP Z (BP Z (BP b.one (BP c.one (BP d.one Mx)))))) fun ch j m=>Al<|AM ?_;have a:=j.rG H;refine B1 1 Z ?_
 refine Ag (AV Z)<|Ag (Af Z Aa1 Z B4.e)<|Ag (Ae 0 Z j Z)<|Ar 1 Z<|Ag (AT l)<|A1 1 Z<|AS h ?_ ?_<;>intro bb h
 ·cases h
 refine A4<|A2<|AM<|Aq<|Ag (Ax 3 Z B5.e j Z)<|Av h fun ci bc h=>?_;have b:=b.mono (Ac m);have c:=c.mono (Ac m);have d:=d.mono (Ac m);refine A6 j (HJ _ _ (Ao j) k.1 (b.mono a) (c.mono a) (d.mono a) bc) fun cj ca ai aq=>Ag (B7 (fun _=>Dx _))<|Ag (MP Mq (OK _ _ _ _))<|Al<|DP h ?_ ?_<;>intro bd h
 ·cases h
 refine A4<|A2<|Aq<|Ag (Ax 3 Z B5.e ai Z)<|Ag (B7 (fun _=>Dx _)) ?_;have a:=a.trans (Ac aq);refine A7 3 Z ai Z (h1:=(BP Z (BP Z (BP (b.mono a).one (BP (c.mono a).one (BP (d.mono a).one Mx)))))) fun ck be ar=>A7 2 Z be Z fun bw aj au=>Al<|Au ?_;have ak:AW w [.box b2 [No k.1.f.1,No k.1.f.2.1,an,ao,ap] 34,.box b3 [No 0,No 0] 27,.box ay [y,z,aa,No k.2.2.2.2] 60,.box b6 [No x4.1,No x4.2] 27,.box b1 [g] 25] bw:=aj.Bn [2,3] Z;have av:=AJ [2,3] aj ak Z;refine Av h fun cl bf h=>?_;have a:=a.trans (Ac (ar.trans (au.trans av)));refine Tx (MD (a0:=k.1) (a1:=(0,0)) (O:=[.box ay [y,z,aa,No k.2.2.2.2] 60,.box b6 [No x4.1,No x4.2] 27,.box b1 [g] 25]) hH ak (b.mono a) (c.mono a) (d.mono a) bf) ?_;rintro cm ⟨x,aw⟩ az frz
 cases h
 have a:=a.trans (Ac aw);exact⟨_,UJ Z (.cell Z Aaz Z B5.e (Bo (i:=0) x Z)) (.cell Z Aaj Z BB.e (Bo (i:=1) x Z)) frz,x.ext,_,_,_,Z,((b.mono a).mono (GQ hH)),((c.mono a).mono (GQ hH)),((d.mono a).mono (GQ hH))⟩
end
end Go.Proofs.YtnmkjjgmnbmmnaaGreatDoor
end
noncomputable section
namespace Go.Proofs.YtnmkjjgmnbmmnaaGreatDoor
open Go Go.E Go.RowKit Go.L
theorem N4:Dz SF=some (0,0):=(inferInstance:Mi (Dz SF)).h (0,0) V
theorem Vr:Qq8 EU (fun x=>I2 x)=some (SF,(0,0)):=by
 have h:=Vq;unfold Zd at h;obtain⟨a,h1,h⟩:=bind_some h;obtain⟨b,h2,h⟩:=bind_some h;rw[h1,Qq9,h2];have:=of_decide_eq_true (Option.some.inj h);rw[this]
def HZ(m:Nat):Nat->Qq4
 | 0=>[]
 | n+1=>HZ m n++(if m.testBit n then[(n:Int)]else[])
theorem OW(m:Nat):∀n,(HZ m n).length<=n
 | 0=>Nat.le_refl _
 | n+1=>by
  have:=OW m n;unfold HZ;rw[Qzk]
  split <;> simp <;> omega
theorem Ss{m c:Nat}:∀n,(c:Int)∈HZ m n↔c<n/\m.testBit c=true
 | 0=>by simp[HZ]
 | n+1=>by
  unfold HZ;rw[List.mem_append,Ss n]
  by_cases e:c=n
  ·subst e
   cases h:m.testBit c <;> simp
  ·have a : ¬((c:Int)=(n:Int)):=by omega
   cases h:m.testBit n
   ·simp only[Bool.false_eq_true,if_false,List.not_mem_nil,or_false]
    constructor
    ·rintro⟨h1,h2⟩;exact⟨by omega,h2⟩
    ·rintro⟨h1,h2⟩;exact⟨by omega,h2⟩
   ·simp only[if_true,List.mem_singleton,a,or_false]
    constructor
    ·rintro⟨h1,h2⟩;exact⟨by omega,h2⟩
    ·rintro⟨h1,h2⟩;exact⟨by omega,h2⟩
theorem Vs{M:List Nat}{k:Nat}(hk:k<M.length):MT (k:Int) (M.map IV) ([],0)=some (HZ (M.getD k 0) 256,(0,0)):=by
 refine JP (GD (k:Int) (M.map IV)) (fun i=>(HZ (M.getD k 0) i,(i:Int))) 256 (some (HZ (M.getD k 0) 256,(0,0))) (fun i hi=>?_) ?_ 0 U
 ·unfold GD;dsimp only;have hl:=OW (M.getD k 0) i;rw[if_pos U,An,show(k:Int).toNat=k from Z,show(i:Int).toNat=i from Z,getD_map hk];have e:IV (M.getD k 0) i=(M.getD k 0).testBit i:=by unfold IV;simp[hi]
  rw[e]
  cases h:(M.getD k 0).testBit i
  ·rw[if_neg Qqc,An (h:=(by unfold BH;omega)),show HZ (M.getD k 0) (i+1)=HZ (M.getD k 0) i by rw[HZ,h];simp]
   rfl
  ·rw[if_pos Z,An (h:=(by unfold Gx;simp only[Qxb];omega)),An (h:=(by unfold BH;omega)),show HZ (M.getD k 0) (i+1)=HZ (M.getD k 0) i++[(i:Int)] by rw[HZ,h];rfl]
   rfl
 ·unfold GD KJ;dsimp only;rw[if_neg U]
theorem Ia:(SF.length:Int)=19:=by decide
theorem Vt{k:Nat}(hk:k<19):Lb SF (k:Int)=some (HZ (SM.getD k 0) 256,(0,0)):=by
 unfold Lb Jp Hw;rw[N4,Qq9,if_pos ⟨Z,Z⟩,Ia,An (h:=(by decide)),Qq9,if_neg (by simp;omega),Qq9,if_pos ⟨Z,Z⟩,QY,Qq9];have hM:SM.length=19:=by kernel_rfl
 rw[An (h:=(by rw[Qzf,hM];omega))];exact Vs U
def SL:List Qq4:=SM.map fun m=>HZ m 256
theorem get_map(M:List Nat)(i:Nat)(h:i<(M.map fun m=>HZ m 256).length):(M.map fun m=>HZ m 256)[i]=HZ (M.getD i 0) 256:=by
 rw[Qzf]at h;simp[Qz7,h]
theorem St:KM SF=some SL:=by
 have hM:SM.length=19:=by kernel_rfl
 have hS:SL.length=19:=by unfold SL;rw[Qzf,hM]
 have:=JP (Fi SF) (fun i=>(SL.take i,(i:Int))) 19 (some SL) (fun i hi=>?_) ?_ 0 U
 ·exact this
 ·unfold Fi;dsimp only;rw[Ia,if_pos U,Vt hi,Qq9,An (h:=(by unfold Gx;rw[List.length_take];simp only[Qxb];omega)),An (h:=(by unfold BH;omega))]
  have e:SL.take (i+1)=SL.take i++[HZ (SM.getD i 0) 256]:=by
   rw[List.take_succ_eq_append_getElem U,show SL[i]=HZ (SM.getD i 0) 256 from get_map SM i _]
  rw[e]
  rfl
 ·unfold Fi Jq;dsimp only;rw[Ia,if_neg U,List.take_of_length_le U]
abbrev Rd:=List QV×List Qq4×Qq3×Int
abbrev R(d:Qq3)(i:Nat):Rd:=(SF,SL,d,(i:Int))
theorem Fk{d y:Qq3}{i:Nat}{c:UInt8}(h:d.drop i=c::y):i<d.length/\d.getD i Qq1=c/\d.drop (i+1)=y:=by
 have hi:i<d.length:=by
  rcases Nat.lt_or_ge i d.length with q | q
  ·exact q
  ·rw[Qxf q]at h;cases h
 rw[Qz1 hi]at h;simp only[List.cons.injEq]at h;exact⟨hi,by simp[Qz7,hi,h.1],h.2⟩
theorem T9{d y:Qq3}{i:Nat}{c:UInt8}(h:d.drop i=c::y):D9 (R d i)=some c:=by
 obtain⟨h1,h2,h3⟩:=Fk h;unfold D9;dsimp only;rw[if_neg U,An,show(i:Int).toNat=i from Z,h2]
theorem P8{d x y:Qq3}{i:Nat}(hd:d.length<=1000)(hi:i<=d.length)(h:d.drop i=x++y):C3 (R d i) (x.length:Int)=some (x,R d (i+x.length)):=by
 have hl:d.length - i=x.length+y.length:=by rw[<- QzQ,h,Qzk]
 unfold C3;dsimp only;rw[An (h:=(by unfold BH;omega)),if_neg U,An (h:=(by unfold BH;omega)),An,An (h:=(by unfold BH;omega))];have e:((i:Int)+(x.length:Int)).toNat - (i:Int).toNat=x.length:=by omega
 rw[e,show(i:Int).toNat=i from Z,h,List.take_left]
 rfl
theorem Yj{d y:Qq3}{x:Qq3}{i:Nat}(hd:d.length<=1000)(hi:i<=d.length)(h:d.drop i=x++y):DA (R d i) x=some (R d (i+x.length)):=by
 have hl:d.length - i=x.length+y.length:=by rw[<- QzQ,h,Qzk]
 unfold DA HV;dsimp only;have:=JP (CG (R d i) x) (fun j=>(((i+j:Nat):Int),(j:Int))) x.length (some (R d (i+x.length))) (fun j hj=>?_) ?_ 0 (Qzb _)
 ·exact this
 ·unfold CG;dsimp only
  have a:d.drop (i+j)=x[j]::(x.drop (j+1)++y):=by
   rw[<- List.drop_drop,h,List.drop_append_of_le_length U,Qz1 hj]
   rfl
  rw[if_pos U,An,T9 a,Qq9];have e:x.getD ((j:Int).toNat) Qq1=x[j]:=by simp[Qz7,hj]
  rw[e,if_pos Z,An (h:=(by unfold BH;omega)),An (h:=(by unfold BH;omega))]
  rfl
 ·unfold CG;dsimp only;rw[if_neg U]
theorem TA{d y:Qq3}{i:Nat}{c:UInt8}{r:QV}(hd:d.length<=1000)(h:d.drop i=c::y)(hk:r.2.1=2)(hs:r.2.2.2.1=1)(hb:r.2.2.2.2.1=true)(h1:r.2.2.2.2.2.1<=(c.toNat:Int))(h2:(c.toNat:Int)<=r.2.2.2.2.2.2.1):BE (R d i) r=some ((c.toNat:Int),R d (i+1)):=by
 have hc:=c.toNat_lt;have ht:=P8 (x:=[c]) (y:=y) hd (Nat.le_of_lt (Fk h).1) h;unfold BE;rw[if_neg U,hs,show(1:Int)=(([c]:Qq3).length:Int)from Z,ht,Qq9];unfold FZ;rw[BK (s':=((c.toNat:Int),(1:Int))) ?_]
 ·refine BA (m:=some ((c.toNat:Int),R d (i+1))) ?_;unfold Ca Er;dsimp only;rw[if_neg Qqc,if_neg (by simp;omega)]
  rfl
 ·unfold Ca;dsimp only;rw[if_pos Qqc,An (h:=(by simp)),if_pos hb,An (h:=(by decide)),An (h:=(by simp only[QxD,show((0:Int)).toNat=0 from Z];omega)),An (h:=(by decide))];simp
theorem WK{d y:Qq3}{i:Nat}{a c:UInt8}{r:QV}(hd:d.length<=1000)(h:d.drop i=a::c::y)(hk:r.2.1=2)(hs:r.2.2.2.1=2)(hb:r.2.2.2.2.1=true)(h1:r.2.2.2.2.2.1=0)(h2:r.2.2.2.2.2.2.1=65535):BE (R d i) r=some (((a.toNat * 256+c.toNat:Nat):Int),R d (i+2)):=by
 have ha:=a.toNat_lt;have hc:=c.toNat_lt;have ht:=P8 (x:=[a,c]) (y:=y) hd (Nat.le_of_lt (Fk h).1) h
 have hor:a.toNat * 256 ||| c.toNat=a.toNat * 256+c.toNat:=by
  rw[show a.toNat * 256=a.toNat <<< 8 by rw[Nat.shiftLeft_eq],Nat.shiftLeft_add_eq_or_of_lt U]
 unfold BE;rw[if_neg U,hs,show(2:Int)=(([a,c]:Qq3).length:Int)from Z,ht,Qq9];unfold FZ;rw[BK (s':=((a.toNat:Int),(1:Int))) ?_,BK (s':=(((a.toNat * 256+c.toNat:Nat):Int),(2:Int))) ?_]
 ·refine BA (m:=some (((a.toNat * 256+c.toNat:Nat):Int),R d (i+2))) ?_;unfold Ca Er;dsimp only;rw[if_neg Qqc,if_neg (by simp;omega)]
  rfl
 ·unfold Ca;dsimp only;rw[if_pos Qqc,An (h:=(by simp)),if_pos hb,An (h:=(by unfold BH;omega)),An (h:=(by simp only[show((1:Int)).toNat=1 from Z,List.getD_cons_succ,QxD];omega)),An (h:=(by decide))];simp only[show((1:Int)).toNat=1 from Z,List.getD_cons_succ,QxD]
  have e:((a.toNat:Int) * 256).toNat ||| (c.toNat:Int).toNat=a.toNat * 256+c.toNat:=by
   rw[show((a.toNat:Int) * 256).toNat=a.toNat * 256 by omega,show(c.toNat:Int).toNat=c.toNat from Z,hor]
  rw[e]
  rfl
 ·unfold Ca;dsimp only;rw[if_pos Qqc,An (h:=(by simp)),if_pos hb,An (h:=(by decide)),An (h:=(by simp only[QxD,show((0:Int)).toNat=0 from Z];omega)),An (h:=(by decide))];simp
abbrev Hm(n:Int):Pv:=.mk 1 n [] [] []
abbrev Jy(b:Qq3):Pv:=.mk 2 0 b [] []
abbrev NJ(l:List Pv):Pv:=.mk 3 0 [] [] l
abbrev Om(ns:Qq7)(l:List Pv):Pv:=.mk 4 0 [] ns l
abbrev TB:Qq3:=[98,111,100,121]
abbrev GG:Qq3:=[102,108,97,103,115]
abbrev E2:Qq3:=[119,105,100,116,104]
abbrev Dp:Qq3:=[104,101,105,103,104,116]
abbrev Ko:Qq3:=[99,111,108,111,114,115]
abbrev Ju:Qq3:=[114,111,119,115]
abbrev NB:Qq3:=[112,105,120,101,108,115]
abbrev Slf:=Rd->Int->Option (Pv×Rd)
section
variable {self:Slf}{d:Qq3}{i k:Nat}{r:QV} (hk:k<19) (hr:SF.getD k Qq1=r)
include hk hr
theorem Vu(h2:r.2.1=2):Be self (R d i) (k:Int)=Qq8 (BE (R d i) r) (fun x=>some (Hm x.1,x.2)):=by
 unfold Be B2 Hr;dsimp only;rw[show((k:Nat):Int).toNat=k from Z,hr,Ia,An,if_neg U,if_pos h2,if_pos (by simp[h2])]
 rfl
theorem Vv(h2:r.2.1=1):Be self (R d i) (k:Int)=Qq8 (DA (R d i) r.2.2.1) (fun x=>some (NJ [],x)):=by
 unfold Be Gp;dsimp only;rw[show((k:Nat):Int).toNat=k from Z,hr,Ia,An,if_pos h2]
 rfl
theorem Un(h2:r.2.1=10)(a:r.2.2.2.2.2.2.2.2.1=18):Be self (R d i) (k:Int)=Qq8 (BE (R d i) (SF.getD 18 Qq1)) (fun x=>Qq8 (C3 x.2 x.1) (fun y=>Qq8 (EH y.1) (fun z=>some (z,y.2)))):=by
 unfold Be B2 EI;dsimp only;rw[show((k:Nat):Int).toNat=k from Z,hr,Ia,An,if_neg U,if_neg U,if_neg (by simp[h2]),if_neg U,if_pos h2,a,An,show(18:Int).toNat=18 from Z]
 congr 1
 funext x
 congr 1
 funext y
 unfold EH
 cases Cl y.1 <;> rfl
theorem Qn(h2:r.2.1=7):Be self (R d i) (k:Int)=Bs (R d i) (k:Int) self (SF,SL,d,(i:Int),[],[],0):=by
 unfold Be B2 EL;dsimp only;rw[show((k:Nat):Int).toNat=k from Z,hr,Ia,An,if_neg U,if_neg U,if_neg (by simp[h2]),if_neg U,if_neg U,if_neg U,if_neg U,if_neg U,if_neg U]
theorem Te(h2:r.2.1=4):Be self (R d i) (k:Int)=Qq8 (C3 (R d i) r.2.2.2.1) (fun y=>Qq8 (EH y.1) (fun z=>some (z,y.2))):=by
 unfold Be B2;dsimp only;rw[show((k:Nat):Int).toNat=k from Z,hr,Ia,An,if_neg U,if_neg U,if_neg (by simp[h2]),if_pos h2]
theorem Vw{q:Nat}(h2:r.2.1=6)(a:r.2.2.2.2.2.2.2.2.1=(q:Int))(hq:q<19):Be self (R d i) (k:Int)=Qq8 (BE (R d i) (SF.getD q Qq1)) (fun x=>C4 (R d i) (k:Int) self (x.2.1,x.2.2.1,x.2.2.2.1,x.2.2.2.2,[],x.1)):=by
 unfold Be B2;dsimp only;rw[show((k:Nat):Int).toNat=k from Z,hr,Ia,An,if_neg U,if_neg U,if_neg (by simp[h2]),if_neg U,if_neg U,if_neg U,if_pos h2,a,An,show((q:Nat):Int).toNat=q from Z]
omit hk in
theorem Vx{j:Nat}{at_ at':Nat}{ns:Qq7}{ps:List Pv}{v:Pv}{q:Int}(hj:(j:Int)<(r.2.2.2.2.2.2.2.2.2.2.2.length:Int))(a:(j:Int)<(r.2.2.2.2.2.2.2.2.2.2.1.length:Int))(b:j<100)(hq:r.2.2.2.2.2.2.2.2.2.2.2.getD j Qq1=q)(hn:r.2.2.2.2.2.2.2.2.2.2.1.getD j Qq1=[])
  (hs:self (R d at_) q=some (v,R d at')):Bs (R d i) (k:Int) self (SF,SL,d,(at_:Int),ns,ps,(j:Int))=Bs (R d i) (k:Int) self (SF,SL,d,(at':Int),ns,ps,((j+1:Nat):Int)):=by
 unfold Bs;refine BK ?_;unfold Cz;dsimp only;rw[show((k:Nat):Int).toNat=k from Z,hr,show((j:Nat):Int).toNat=j from Z,if_pos hj,An,hq,hs,Qq9,An,if_pos hn,An (h:=(by unfold BH;omega))]
 rfl
omit hk in
theorem IM{j:Nat}{at_ at':Nat}{ns:Qq7}{ps:List Pv}{v:Pv}{q:Int}{n:Qq3}(hj:(j:Int)<(r.2.2.2.2.2.2.2.2.2.2.2.length:Int))(a:(j:Int)<(r.2.2.2.2.2.2.2.2.2.2.1.length:Int))(b:j<100)(hq:r.2.2.2.2.2.2.2.2.2.2.2.getD j Qq1=q)(hn:r.2.2.2.2.2.2.2.2.2.2.1.getD j Qq1=n)(hne:n≠[])
  (c:ns.length<100) (e:ps.length<100) (hs:self (R d at_) q=some (v,R d at')):Bs (R d i) (k:Int) self (SF,SL,d,(at_:Int),ns,ps,(j:Int))=Bs (R d i) (k:Int) self (SF,SL,d,(at':Int),ns++[n],ps++[v],((j+1:Nat):Int)):=by
 unfold Bs;refine BK ?_;unfold Cz;dsimp only;rw[show((k:Nat):Int).toNat=k from Z,hr,show((j:Nat):Int).toNat=j from Z,if_pos hj,An,hq,hs,Qq9,An,hn,if_neg hne,An,An (h:=(by unfold Gx;simp only[Qxb];omega)),An (h:=(by unfold Gx;simp only[Qxb];omega)),An (h:=(by unfold BH;omega))]
 rfl
omit hk in
theorem R2{j at_:Nat}{ns:Qq7}{ps:List Pv}(hj:((j:Nat):Int)=(r.2.2.2.2.2.2.2.2.2.2.2.length:Int)):Bs (R d i) (k:Int) self (SF,SL,d,(at_:Int),ns,ps,(j:Int))=some (Om ns ps,R d at_):=by
 unfold Bs;refine BA (m:=some (Om ns ps,R d at_)) ?_;unfold Cz EK;dsimp only;rw[show((k:Nat):Int).toNat=k from Z,hr,if_neg U]
end
theorem TC{x:Qq3}(hx:x.length<=1000000):Cl x=some x:=by
 unfold Cl;rw[An (h:=(by unfold Gx;simp only[QzB];omega))]
 rfl
theorem Su{x:Qq3}(hx:x.length<=1000000):EH x=some (Jy x):=by
 unfold EH;rw[TC hx]
 rfl
noncomputable abbrev vN:=DB
theorem Lf(m:Nat)(s:Rd)(k:Int):vN (m+1) s k=Be (vN m) s k:=Z
section
variable {d y:Qq3}{i m:Nat} (hd:d.length<=1000)
include hd
theorem Qo{k:Nat}{c:UInt8}(hk:k<19)(h:d.drop i=c::y)(h2:(SF.getD k Qq1).2.1=2)(hs:(SF.getD k Qq1).2.2.2.1=1)(hb:(SF.getD k Qq1).2.2.2.2.1=true)(q1:(SF.getD k Qq1).2.2.2.2.2.1<=(c.toNat:Int))(a:(c.toNat:Int)<=(SF.getD k Qq1).2.2.2.2.2.2.1):vN (m+1) (R d i) (k:Int)=some (Hm c.toNat,R d (i+1)):=by
 rw[Lf,Vu (r:=SF.getD k Qq1) hk Z h2,TA hd h h2 hs hb q1 a]
 rfl
theorem Zf{k:Nat}{x:Qq3}(hk:k<19)(h2:(SF.getD k Qq1).2.1=1)(hx:(SF.getD k Qq1).2.2.1=x)(hi:i<=d.length)(h:d.drop i=x++y):vN (m+1) (R d i) (k:Int)=some (NJ [],R d (i+x.length)):=by
 rw[Lf,Vv (r:=SF.getD k Qq1) hk Z h2,hx,Yj hd hi h]
 rfl
theorem Vy{a c:UInt8}{x:Qq3}(h:d.drop i=a::c::(x++y))(hx:x.length=a.toNat * 256+c.toNat):vN (m+1) (R d i) 17=some (Jy x,R d (i+(2+x.length))):=by
 obtain⟨q1,_,b⟩:=Fk h;obtain⟨f,_,e⟩:=Fk b;have hl:d.length - i=x.length+y.length+2:=by rw[<- QzQ,h];simp
 rw[Lf,show(17:Int)=((17:Nat):Int)from Z,Un (r:=SF.getD 17 Qq1) Qqb Z Z Z,WK hd h Z Z Z Z Z,Qq9,<- hx];dsimp only;rw[P8 (i:=i+2) hd U e,Qq9,Su (x:=x) U,Qq9,Nat.add_assoc]
theorem R3{c:UInt8}(h:d.drop i=c::y)(h1:1<=c.toNat)(h2:c.toNat<=64):vN (m+1) (R d i) 11=some (Hm c.toNat,R d (i+1)):=
 Qo (k:=11) hd Qqb h Z Z Z (show(1:Int)<=_ by omega) (show _<=(64:Int) by omega)
theorem Zg{x:Qq3}(hx:x.length=3)(hi:i<=d.length)(h:d.drop i=x++y):vN (m+1) (R d i) 16=some (Jy x,R d (i+3)):=by
 have ht:=P8 hd hi h;rw[hx]at ht;rw[Lf,show(16:Int)=((16:Nat):Int)from Z,Te (r:=SF.getD 16 Qq1) Qqb Z Z,show(SF.getD 16 Qq1).2.2.2.1=((3:Nat):Int)from Z,ht,Qq9];dsimp only;rw[Su U,Qq9]
theorem TD{k:Nat}{i0:Nat}(a:(SF.getD k Qq1).2.2.2.2.2.2.2.2.2.1=16):∀(cs:Qq7) (i:Nat) (ps:List Pv),(∀c∈cs,c.length=3)->d.drop i=cs.flatten++y->i<=d.length->ps.length+cs.length<=1000->
  C4 (R d i0) (k:Int) (vN (m+1)) (SF,SL,d,(i:Int),ps,(cs.length:Int))=some (NJ (ps++cs.map Jy),R d (i+3 * cs.length))
 | [],i,ps,_,_,_,_=>by
  unfold C4;refine BA (m:=some (NJ (ps++[]),R d (i+0))) ?_;unfold Dg EJ Gp;dsimp only;rw[if_neg Qqc,Qxv]
  rfl
 | c::cs,i,ps,hc,h,hi,hn=>by
  have h3:=hc c (List.mem_cons_self ..);have h':d.drop i=c++(cs.flatten++y):=by rw[h,List.flatten_cons,Qxz]
  have hl:d.length - i=3+(cs.flatten++y).length:=by rw[<- QzQ,h',Qzk,h3]
  have hv:=Zg (m:=m) hd h3 hi h';simp only[Qzj]at hn;have ih:=TD (i0:=i0) a cs (i+3) (ps++[Jy c]) (fun c' q=>hc c' (List.mem_cons_of_mem _ q)) (by rw[<- List.drop_drop,h',<- h3,List.drop_left]) U (by simp only[Qzk,Qzj,QzB];omega);have e:i+3+3 * cs.length=i+3 * (c::cs).length:=by simp only[Qzj];omega
  unfold C4 at ih ⊢;rw[BK (s':=(SF,SL,d,((i+3:Nat):Int),ps++[Jy c],(cs.length:Int))) ?_,ih,e,List.map_cons,Qxz]
  ·rfl
  ·unfold Dg;dsimp only;rw[show((k:Nat):Int).toNat=k from Z,a,if_pos (by simp only[Qzj];omega),hv,Qq9];dsimp only;rw[An (h:=(by unfold Gx;simp only[Qzj,QzB];omega)),An (h:=(by unfold BH;simp only[Qzj];omega))];have b:(((c::cs).length:Nat):Int) - 1=(cs.length:Int):=by simp only[Qzj];omega
   rw[b]
theorem Vz{k q:Nat}{cs:Qq7}{n:UInt8}(hk:k<19)(h2:(SF.getD k Qq1).2.1=6)(a:(SF.getD k Qq1).2.2.2.2.2.2.2.2.1=(q:Int))(hq:q<19)(b:(SF.getD k Qq1).2.2.2.2.2.2.2.2.2.1=16)
  (e:(SF.getD q Qq1).2.1=2) (qs:(SF.getD q Qq1).2.2.2.1=1) (qb:(SF.getD q Qq1).2.2.2.2.1=true) (f:(SF.getD q Qq1).2.2.2.2.2.1<=(cs.length:Int)) (g:(cs.length:Int)<=(SF.getD q Qq1).2.2.2.2.2.2.1) (l:cs.length<=200)
  (hn:n.toNat=cs.length) (hc:∀c∈cs,c.length=3) (h:d.drop i=n::(cs.flatten++y)):vN (m+2) (R d i) (k:Int)=some (NJ (cs.map Jy),R d (i+1+3 * cs.length)):=by
 obtain⟨o,_,j⟩:=Fk h;rw[Lf,Vw (r:=SF.getD k Qq1) hk Z h2 a hq,TA hd h e qs qb (by rw[hn];exact f) (by rw[hn];exact g),Qq9,hn];exact TD hd b cs (i+1) [] hc j U (by simp only[QzB];omega)
end
abbrev Pc:=UInt8×UInt8×UInt8×Qq7×Qq3
def kx(f:UInt8):Nat:=f.toNat / 16
def cb(p:Pc):Qq3:=if kx p.1<2 then Qzv p.2.2.2.1.length::p.2.2.2.1.flatten else[]
def rb(x:Qq3):Qq3:=Qzv (x.length / 256)::Qzv (x.length % 256)::x
def KT(p:Pc):Qq3:=p.1::p.2.1::p.2.2.1::(cb p++rb p.2.2.2.2)
def Kf(p:Pc):Qq3:=[82,65,83,49]++KT p
structure QD (p:Pc):Prop where
 k:p.1.toNat / 16<=3
 f:p.1.toNat % 16<=3
 w1:1<=p.2.1.toNat
 w2:p.2.1.toNat<=64
 h1:1<=p.2.2.1.toNat
 h2:p.2.2.1.toNat<=64
 c0:p.1.toNat / 16=0->1<=p.2.2.2.1.length/\p.2.2.2.1.length<=2
 c1:p.1.toNat / 16=1->1<=p.2.2.2.1.length/\p.2.2.2.1.length<=16
 c3:∀c∈p.2.2.2.1,c.length=3
 r:p.2.2.2.2.length<=1000
def vb(p:Pc):Pv:=
 if kx p.1<2 then Om [GG,E2,Dp,Ko,Ju] [Hm p.1.toNat,Hm p.2.1.toNat,Hm p.2.2.1.toNat,NJ (p.2.2.2.1.map Jy),Jy p.2.2.2.2]
 else Om [GG,E2,Dp,Ju] [Hm p.1.toNat,Hm p.2.1.toNat,Hm p.2.2.1.toNat,Jy p.2.2.2.2]
def vF(p:Pc):Pv:=Om [TB] [NJ [Hm ((kx p.1:Nat):Int),vb p]]
theorem hl{n:Nat}(h:n<=1000):(Qzv (n / 256)).toNat * 256+(Qzv (n % 256)).toNat=n:=by
 rw[QxJ,QxJ];omega
theorem Qp{n:Nat}(h:n<=200):(Qzv n).toNat=n:=by
 rw[QxJ];omega
theorem TE:∀{cs:Qq7},(∀c∈cs,c.length=3)->cs.flatten.length=3 * cs.length
 | [],_=>rfl
 | c::cs,h=>by
  rw[List.flatten_cons,Qzk,TE (cs:=cs) (fun c' q=>h c' (List.mem_cons_of_mem _ q)),h c (List.mem_cons_self ..),Qzj];omega
section
variable {d y:Qq3}{i m:Nat} (hd:d.length<=1000)
include hd
theorem X5{k q0 q1:Nat}{f w g:UInt8}{cs:Qq7}{x:Qq3}(hk:k<19)(h2:(SF.getD k Qq1).2.1=7)(hns:(SF.getD k Qq1).2.2.2.2.2.2.2.2.2.2.1=[GG,E2,Dp,Ko,Ju])(hps:(SF.getD k Qq1).2.2.2.2.2.2.2.2.2.2.2=[(q0:Int),11,11,(q1:Int),17])
  (hf:vN (m+2) (R d i) (q0:Int)=some (Hm f.toNat,R d (i+1))) (w1:1<=w.toNat) (w2:w.toNat<=64) (l:1<=g.toNat) (o:g.toNat<=64) (hc:vN (m+2) (R d (i+1+1+1)) (q1:Int)=some (NJ (cs.map Jy),R d (i+1+1+1+1+3 * cs.length)))
  (c3:∀c∈cs,c.length=3) (hx:x.length<=1000) (h:d.drop i=f::w::g::(Qzv cs.length::cs.flatten++(rb x++y))):vN (m+3) (R d i) (k:Int)=some (Om [GG,E2,Dp,Ko,Ju] [Hm f.toNat,Hm w.toNat,Hm g.toNat,NJ (cs.map Jy),Jy x],R d (i+(4+3 * cs.length+(2+x.length)))):=by
 obtain⟨t,_,a⟩:=Fk h;obtain⟨u,_,b⟩:=Fk a;obtain⟨v,_,j⟩:=Fk b;rw[List.cons_append]at j;obtain⟨z,_,p⟩:=Fk j
 have s:d.drop (i+1+1+1+1+3 * cs.length)=Qzv (x.length / 256)::Qzv (x.length % 256)::(x++y):=by
  rw[<- List.drop_drop,p,<- TE c3,List.drop_left]
  rfl
 rw[Lf,Qn (r:=SF.getD k Qq1) hk Z h2];rw[show(0:Int)=((0:Nat):Int)from Z,IM (r:=SF.getD k Qq1) (q:=(q0:Int)) (n:=GG) Z (by rw[hps];simp) (by rw[hns];simp) Qqb (by rw[hps];rfl) (by rw[hns];rfl) Qqb Qqc Qqc hf];rw[IM (r:=SF.getD k Qq1) (q:=11) (n:=E2) Z (by rw[hps];simp) (by rw[hns];simp) Qqb (by rw[hps];rfl) (by rw[hns];rfl) Qqb Qqc Qqc (R3 hd a w1 w2)];rw[IM (r:=SF.getD k Qq1) (q:=11) (n:=Dp) Z (by rw[hps];simp) (by rw[hns];simp) Qqb (by rw[hps];rfl) (by rw[hns];rfl) Qqb Qqc Qqc (R3 hd b l o)];rw[IM (r:=SF.getD k Qq1) (q:=(q1:Int)) (n:=Ko) Z (by rw[hps];simp) (by rw[hns];simp) Qqb (by rw[hps];rfl) (by rw[hns];rfl) Qqb Qqc Qqc hc];rw[IM (r:=SF.getD k Qq1) (q:=17) (n:=Ju) Z (by rw[hps];simp) (by rw[hns];simp) Qqb (by rw[hps];rfl) (by rw[hns];rfl) Qqb Qqc Qqc (Vy hd s (hl hx).symm)];rw[R2 (r:=SF.getD k Qq1) Z (by rw[hps];rfl)];have e:i+1+1+1+1+3 * cs.length+(2+x.length)=i+(4+3 * cs.length+(2+x.length)):=by omega
 rw[e]
 rfl
theorem X6{k q0:Nat}{f w g:UInt8}{x:Qq3}(hk:k<19)(h2:(SF.getD k Qq1).2.1=7)(hns:(SF.getD k Qq1).2.2.2.2.2.2.2.2.2.2.1=[GG,E2,Dp,Ju])(hps:(SF.getD k Qq1).2.2.2.2.2.2.2.2.2.2.2=[(q0:Int),11,11,17])
  (hf:vN (m+2) (R d i) (q0:Int)=some (Hm f.toNat,R d (i+1))) (w1:1<=w.toNat) (w2:w.toNat<=64) (c:1<=g.toNat) (j:g.toNat<=64)
  (hx:x.length<=1000) (h:d.drop i=f::w::g::(rb x++y)):vN (m+3) (R d i) (k:Int)=some (Om [GG,E2,Dp,Ju] [Hm f.toNat,Hm w.toNat,Hm g.toNat,Jy x],R d (i+(3+(2+x.length)))):=by
 obtain⟨p,_,a⟩:=Fk h;obtain⟨s,_,b⟩:=Fk a;obtain⟨t,_,l⟩:=Fk b;have o:d.drop (i+1+1+1)=Qzv (x.length / 256)::Qzv (x.length % 256)::(x++y):=l;rw[Lf,Qn (r:=SF.getD k Qq1) hk Z h2];rw[show(0:Int)=((0:Nat):Int)from Z,IM (r:=SF.getD k Qq1) (q:=(q0:Int)) (n:=GG) Z (by rw[hps];simp) (by rw[hns];simp) Qqb (by rw[hps];rfl) (by rw[hns];rfl) Qqb Qqc Qqc hf];rw[IM (r:=SF.getD k Qq1) (q:=11) (n:=E2) Z (by rw[hps];simp) (by rw[hns];simp) Qqb (by rw[hps];rfl) (by rw[hns];rfl) Qqb Qqc Qqc (R3 hd a w1 w2)];rw[IM (r:=SF.getD k Qq1) (q:=11) (n:=Dp) Z (by rw[hps];simp) (by rw[hns];simp) Qqb (by rw[hps];rfl) (by rw[hns];rfl) Qqb Qqc Qqc (R3 hd b c j)];rw[IM (r:=SF.getD k Qq1) (q:=17) (n:=Ju) Z (by rw[hps];simp) (by rw[hns];simp) Qqb (by rw[hps];rfl) (by rw[hns];rfl) Qqb Qqc Qqc (Vy hd o (hl hx).symm)];rw[R2 (r:=SF.getD k Qq1) Z (by rw[hps];rfl)];have e:i+1+1+1+(2+x.length)=i+(3+(2+x.length)):=by omega
 rw[e]
 rfl
end
theorem Uo{p:Pc}(hp:QD p):(KT p).length=if kx p.1<2 then 4+3 * p.2.2.2.1.length+(2+p.2.2.2.2.length)else 3+(2+p.2.2.2.2.length):=by
 unfold KT cb rb
 split
 ·simp only[Qzj,Qzk,TE hp.c3];omega
 ·simp only[Qzj,Qzk,List.nil_append];omega
theorem Yk{d y:Qq3}{i m:Nat}{p:Pc}(hd:d.length<=1000)(hp:QD p)(h:d.drop i=KT p++y):
  vN (m+3) (R d i) (([3,4,5,6]:Qq4).getD (kx p.1) Qq1)=some (vb p,R d (i+(KT p).length)):=by
 have hbl:=Uo hp;rw[hbl];obtain⟨f,w,g,cs,x⟩:=p;obtain⟨u,v,b,c,j,l,r,s,n,a⟩:=hp;dsimp only at u v b c j l r s n a ⊢;have hdiv:=Nat.div_add_mod f.toNat 16;unfold KT cb at h;dsimp only at h;unfold vb;dsimp only;have hkx:kx f=f.toNat / 16:=Z
 by_cases o:kx f<2
 ·rw[if_pos o]at h ⊢;rw[if_pos o]
  have h:d.drop i=f::w::g::(Qzv cs.length::cs.flatten++(rb x++y)):=by
   rw[h];simp only[List.cons_append,Qxz]
  have t:d.drop (i+1+1+1)=Qzv cs.length::(cs.flatten++(rb x++y)):=by
   obtain⟨_,_,z⟩:=Fk h;obtain⟨_,_,p4⟩:=Fk z;exact(Fk p4).2.2
  rcases(by omega:kx f=0\/kx f=1)with e | e
  ·have r:=r U;rw[e]
   exact X5 (k:=3) (q0:=7) (q1:=12) hd Qqb Z Z Z (Qo (k:=7) hd Qqb h Z Z Z (show(0:Int)<=_ by omega) (show _<=(3:Int) by omega)) b c j l
    (Vz (k:=12) (q:=14) hd Qqb Z Z Qqb Z Z Z Z (show(1:Int)<=_ by omega) (show _<=(2:Int) by omega) U (Qp U) n t) n a h
  ·have s:=s U;rw[e]
   exact X5 (k:=4) (q0:=8) (q1:=13) hd Qqb Z Z Z (Qo (k:=8) hd Qqb h Z Z Z (show(16:Int)<=_ by omega) (show _<=(19:Int) by omega)) b c j l
    (Vz (k:=13) (q:=15) hd Qqb Z Z Qqb Z Z Z Z (show(1:Int)<=_ by omega) (show _<=(16:Int) by omega) U (Qp U) n t) n a h
 ·rw[if_neg o]at h ⊢;rw[if_neg o]
  have h:d.drop i=f::w::g::(rb x++y):=by
   rw[h];simp only[List.cons_append,List.nil_append]
  rcases(by omega:kx f=2\/kx f=3)with e | e
  ·rw[e];exact X6 (k:=5) (q0:=9) hd Qqb Z Z Z (Qo (k:=9) hd Qqb h Z Z Z (show(32:Int)<=_ by omega) (show _<=(35:Int) by omega)) b c j l a h
  ·rw[e];exact X6 (k:=6) (q0:=10) hd Qqb Z Z Z (Qo (k:=10) hd Qqb h Z Z Z (show(48:Int)<=_ by omega) (show _<=(51:Int) by omega)) b c j l a h
def V0(c:Nat):Qq4->Nat->Int
 | [],_=>-1
 | p::P,j=>if(SM.getD p.toNat 0).testBit c then(j:Int)else V0 c P (j+1)
theorem Yl:SL.length=19:=by
 have hM:SM.length=19:=by kernel_rfl
 unfold SL;rw[Qzf,hM]
theorem Ym{p:Nat}(h:p<19):SL.getD p Qq1=HZ (SM.getD p 0) 256:=by
 have hM:SM.length=19:=by kernel_rfl
 have:=get_map SM p (by rw[Qzf,hM];exact h);rw[<- this];exact(Qz6 _).symm
theorem TF{d:Qq3}{i c:Nat}{P:Qq4}(hP:∀p∈P,0<=p/\p<19)(hl:P.length<1000)(hc:c<256):∀(n j:Nat),j+n=P.length->BX P (R d i) (c:Int) (j:Int)=some (V0 c (P.drop j) j)
 | 0,j,h=>by
  unfold BX;rw[Qxf U];refine BA (m:=some (-1)) ?_;unfold Cu E1;rw[if_neg U]
 | n+1,j,h=>by
  have hlt:j<P.length:=by omega
  have hm:P.getD j Qq1=P[j]:=(Qz6 _).symm;obtain⟨a,b⟩:=hP _ (List.getElem_mem hlt)
  have hv:EV P[j] (R d i) (c:Int)=some ((SM.getD P[j].toNat 0).testBit c):=by
   unfold EV;dsimp only;have:=OW (SM.getD P[j].toNat 0) 256;rw[Yl,An,Ym U,contains_eq _ U,Qq9];refine congrArg some ?_;rw[Bool.eq_iff_iff,decide_eq_true_iff,Ss];exact⟨fun h=>h.2,fun h=>⟨hc,h⟩⟩
  rw[Qz1 hlt,V0];unfold BX
  by_cases hb:(SM.getD P[j].toNat 0).testBit c=true
  ·rw[if_pos hb];refine BA (m:=some (j:Int)) ?_;unfold Cu;rw[if_pos U,An,show((j:Nat):Int).toNat=j from Z,hm,hv,Qq9,if_pos hb]
  ·rw[if_neg hb];have ih:=TF (d:=d) (i:=i) hP hl hc n (j+1) U;unfold BX at ih;rw[BK (s':=((j+1:Nat):Int)) ?_,ih];unfold Cu;rw[if_pos U,An,show((j:Nat):Int).toNat=j from Z,hm,hv,Qq9,if_neg hb,An (h:=(by unfold BH;omega))]
   rfl
theorem WL{c:Nat}(h1:c / 16<=3)(h2:c % 16<=3):V0 c [3,4,5,6] 0=(c / 16:Nat):=by
 have h:(QzE 64).all (fun t=>!decide (t % 16<=3)||decide (V0 t [3,4,5,6] 0=(t / 16:Nat)))=true:=by kernel_rfl
 rw[Qxe]at h;have:=h c (List.mem_range.2 U);simp only[Bool.or_eq_true,Bool.not_eq_true',decide_eq_false_iff_not,decide_eq_true_eq]at this;exact this.resolve_left (fun q=>q h2)
theorem WM{d y:Qq3}{i m:Nat}{p:Pc}(hd:d.length<=1000)(hp:QD p)(h:d.drop i=KT p++y):vN (m+4) (R d i) 2=some (NJ [Hm ((kx p.1:Nat):Int),vb p],R d (i+(KT p).length)):=by
 have hb:=Yk (m:=m) hd hp h;have hk:kx p.1<=3:=hp.k;have hpk:D9 (R d i)=some p.1:=T9 (y:=p.2.1::p.2.2.1::(cb p++rb p.2.2.2.2)++y) h;have hcl:=p.1.toNat_lt;have hx:=TF (d:=d) (i:=i) (c:=p.1.toNat) (P:=[3,4,5,6]) Qqb Qqb U 4 0 Z;rw[List.drop_zero,WL hp.k hp.f]at hx;have hx:BX [3,4,5,6] (R d i) (p.1.toNat:Int) ((0:Nat):Int)=some ((kx p.1:Nat):Int):=hx;rw[Lf];unfold Be B2 Hr Gp Fp;dsimp only;have hr:SF.getD ((2:Int).toNat) Qq1=([107,105,110,100,115],8,[],0,false,0,0,0,0,0,[],[3,4,5,6]):=Z;rw[hr,Ia];dsimp only;rw[An (h:=(by decide)),if_neg Qqb,if_neg Qqb,if_neg Qqb,if_neg Qqb,if_neg Qqb,if_neg Qqb,if_neg Qqb,if_neg Qqb,if_pos Qqb,hpk,Qq9,show(0:Int)=((0:Nat):Int)from Z,hx,Qq9,if_neg U,An (h:=(by simp only[Qzj,QzB];omega)),Qq9,show((kx p.1:Nat):Int).toNat=kx p.1 from Z,hb,Qq9,Qq9]
 rfl
theorem Yn{p:Pc}(hl:(Kf p).length<=1000)(hp:QD p):H3 (SF,SL,Kf p,0) 0=some (vF p,R (Kf p) (Kf p).length):=by
 have hlen:(Kf p).length=4+(KT p).length:=by unfold Kf;rw[Qzk];rfl
 have a:(Kf p).drop 0=[82,65,83,49]++KT p:=Z;have b:(Kf p).drop 4=KT p++[]:=(Qxv _).symm;have hm:vN (998+1) (R (Kf p) 0) 1=some (NJ [],R (Kf p) 4):=Zf (k:=1) (x:=[82,65,83,49]) hl Qqb Z Z (Qzb _) a;have hq:vN (995+4) (R (Kf p) 4) 2=some (NJ [Hm ((kx p.1:Nat):Int),vb p],R (Kf p) (4+(KT p).length)):=WM (m:=995) hl hp b
 show vN (999+1) (R (Kf p) 0) 0=_
 rw[Lf,show(0:Int)=((0:Nat):Int)from Z,Qn (r:=SF.getD 0 Qq1) Qqb Z Z];rw[show(0:Int)=((0:Nat):Int)from Z,Vx (r:=SF.getD 0 Qq1) (q:=1) Z Qqb Qqb Qqb Z Z hm];rw[IM (r:=SF.getD 0 Qq1) (q:=2) (n:=TB) Z Qqb Qqb Qqb Z Z Qqb Qqc Qqc hq];rw[R2 (r:=SF.getD 0 Qq1) Z Qqb,hlen]
 rfl
end Go.Proofs.YtnmkjjgmnbmmnaaGreatDoor
end
